/-strings.Index, Count (of one byte), Compare, Join: the kit's contracts as summaries; Cut, Split; a text parted by a byte. strconv.FormatUint at base 10, out of the kit's contracts of its parts; and what stands between these and the texts behind.-/
import Derived.Test.YtcgikjfloloekaaGreatDoorM4
import Derived.Test.YtcgikjfloloekaaGreatDoorShelf
import Derived.Shelf.Strconv.Itoa3
import Derived.Lib.AppendIntMem
import Derived.Lib.Walk
import Derived.WalkKit
import Derived.BigCall
import Derived.BigGuard
import Derived.Lib.AtoiErrMem
import Derived.Lib.ParseIntBCases
import Derived.Test.YtcgikjfloloekaaGreatDoorM5
import Derived.Test.YtcgikjfloloekaaGreatDoorM1
import Derived.ProofKit
import Derived.OpenShut
import Derived.LaidMore
import Derived.Lay
import Derived.Stop.Joined
import Derived.Lib.LaidTab
namespace Go.Proofs.YtcgikjfloloekaaGreatDoor
namespace Sy
open Go Go.RowKit
set_option maxRecDepth 100000
set_option linter.unusedSimpArgs false
set_option linter.unusedVariables false
def zbc (c : UInt8) : List UInt8 -> List (List UInt8)
 | [] => [[]]
 | x :: s => if x = c then [] :: zbc c s else match zbc c s with
   | y :: r => (x :: y) :: r
   | [] => [[x]]
theorem zr2 (c : UInt8) : ∀ s, zbc c s ≠ []
 | [] => by simp [zbc]
 | x :: s => by
   unfold zbc
   split
   · simp
   · split <;> simp
theorem zm5 {c : UInt8} : ∀ {s : List UInt8} {m : Nat}, (∀ k, k < m -> s[k]? ≠ some c) -> s[m]? = some c -> zbc c s = s.take m :: zbc c (s.drop (m + 1))
 | [], m, _, h => by simp at h
 | x :: s, 0, _, h => by
   simp at h; subst h
   simp [zbc]
 | x :: s, m + 1, h0, h => by
   have hx : x ≠ c := by
     have := h0 0 (by omega)
     intro e; subst e; simp at this
   have ih := zm5 (s := s) (m := m) (fun k hk => by have := h0 (k + 1) (by omega); simpa using this) (by simpa using h)
   rw [zbc, if_neg hx, ih]
   simp
theorem zha {c : UInt8} : ∀ {s : List UInt8}, (∀ k : Nat, s[k]? ≠ some c) -> zbc c s = [s]
 | [], _ => rfl
 | x :: s, h0 => by
   have hx : x ≠ c := by
     have := h0 0
     intro e; subst e; simp at this
   have ih := zha (s := s) (fun k => by have := h0 (k + 1); simpa using this)
   rw [zbc, if_neg hx, ih]
theorem zbw (c : UInt8) : ∀ s : List UInt8, (zbc c s).length = s.count c + 1
 | [] => by simp [zbc]
 | x :: s => by
   have ih := zbw c s
   unfold zbc
   by_cases hx : x = c
   · rw [if_pos hx, List.length_cons, ih, hx, List.count_cons_self]
   · rw [if_neg hx, List.count_cons_of_ne (fun e => hx e)]
     cases hs : zbc c s with
     | nil => exact absurd hs (zr2 c s)
     | cons y r => rw [hs] at ih; simpa using ih
theorem yeh {s : List UInt8} {c : UInt8} (h : Lib.indexByte s c < 0) : ∀ k : Nat, s[k]? ≠ some c := by
 have := Lib.indexByte_ge s c
 exact Lib.indexByte_none (by omega)
theorem zry {s : List UInt8} {c : UInt8} (h : ¬ Lib.indexByte s c < 0) : s[(Lib.indexByte s c).toNat]? = some c /\ (∀ k, k < (Lib.indexByte s c).toNat -> s[k]? ≠ some c) /\ (Lib.indexByte s c).toNat < s.length := by
 obtain ⟨o, ho⟩ : ∃ o : Nat, Lib.indexByte s c = o := ⟨(Lib.indexByte s c).toNat, by omega⟩
 have h1 := Lib.indexByte_some ho
 have e : (Lib.indexByte s c).toNat = o := by omega
 rw [e]
 exact ⟨h1.1, h1.2, (List.getElem?_eq_some_iff.1 h1.1).1⟩
theorem ytm (s : List UInt8) (c : UInt8) : -1 <= Lib.indexByte s c /\ Lib.indexByte s c <= s.length := by
 have h0 := Lib.indexByte_ge s c
 by_cases h : Lib.indexByte s c < 0
 · omega
 · have := (zry h).2.2; omega
def by1 (sep : List UInt8) : UInt8 := sep.headD 0
def ztx (sep : List UInt8) : Prop := sep.length = 1
theorem ztw {sep : List UInt8} (h : ztx sep) : sep = [by1 sep] := by
 match sep, h with
 | [c], _ => rfl
def zkr (s sep : List UInt8) : Int := Lib.indexByte s (by1 sep)
def cntZ (s sep : List UInt8) : Int := s.count (by1 sep)
def zm4 (s sep : List UInt8) : List (List UInt8) := zbc (by1 sep) s
def yj7 (l : List (List UInt8)) : Nat := l.length
def lstS (L : za9) (l : List (List UInt8)) : AV := .lst 1 (L yj7 l) (fun i _ => .str (L2 L zu3 l i))
def yot (L : za9) : zbn := (143, fun xs => match xs with | [.str s, .str sep] => some (L ztx sep, .int .i64 (L2 L zkr s sep)) | _ => none)
def yoy (L : za9) : zbn := (140, fun xs => match xs with | [.str s, .str sep] => some (L ztx sep, .int .i64 (L2 L zkr s sep)) | _ => none)
def ypx (L : za9) : zbn := (142, fun xs => match xs with | [.str s, .str sep] => some (L ztx sep, .int .i64 (L2 L cntZ s sep)) | _ => none)
theorem yje : zay Tryz.prog (yot std) := by
 intro xs p r h hp
 dsimp only [yot] at h |-
 split at h <;> cases h
 try simp only [L2, L3, std] at hp |-
 rename_i s sep
 have h1 := ztw (show ztx sep from hp)
 rw [h1]
 refine zb0 (fn := Tryz.f143) rfl rfl (by kernel_rfl) (zvi (zbz _) (zbz _)) (znt _ _) (fun w => (Tryz.strings_Index_one ⟨s.toArray⟩ (by1 sep) w).mono ?_)
 rintro e w' ⟨rfl, rfl⟩
 exact ⟨rfl, Below.refl _ _⟩
theorem yjh : zay Tryz.prog (yoy std) := by
 intro xs p r h hp
 dsimp only [yoy] at h |-
 split at h <;> cases h
 try simp only [L2, L3, std] at hp |-
 rename_i s sep
 have h1 := ztw (show ztx sep from hp)
 rw [h1]
 refine zb0 (fn := Tryz.f140) rfl rfl (by kernel_rfl) (zvi (zbz _) (zbz _)) (znt _ _) (fun w => (Tryz.stringslite_Index_one ⟨s.toArray⟩ (by1 sep) w).mono ?_)
 rintro e w' ⟨rfl, rfl⟩
 exact ⟨rfl, Below.refl _ _⟩
theorem yka : zay Tryz.prog (ypx std) := by
 intro xs p r h hp
 dsimp only [ypx] at h |-
 split at h <;> cases h
 try simp only [L2, L3, std] at hp |-
 rename_i s sep
 have h1 := ztw (show ztx sep from hp)
 rw [h1]
 refine zb0 (fn := Tryz.f142) rfl rfl (by kernel_rfl) (zvi (zbz _) (zbz _)) (znt _ _) (fun w => (Tryz.strings_Count_one ⟨s.toArray⟩ (by1 sep) w).mono ?_)
 rintro e w' ⟨rfl, rfl⟩
 exact ⟨rfl, Below.refl _ _⟩
def yk6 (s sep : List UInt8) : List UInt8 := if zkr s sep < 0 then s else s.take (zkr s sep).toNat
def yfd (s sep : List UInt8) : List UInt8 := if zkr s sep < 0 then [] else s.drop ((zkr s sep).toNat + 1)
def yua (s sep : List UInt8) : Bool := decide (0 <= zkr s sep)
def yfb (L : za9) : zbn := (135, fun xs => match xs with | [.str s, .str sep] => some (L ztx sep /\ L2 L upto 1000000000 s, .tup [.str (L2 L yk6 s sep), .str (L2 L yfd s sep), .bool (L2 L yua s sep)]) | _ => none)
def yps (L : za9) : zbn := (128, fun xs => match xs with | [.str s, .str sep] => some (L ztx sep /\ L2 L upto 1000000000 s, .tup [.str (L2 L yk6 s sep), .str (L2 L yfd s sep), .bool (L2 L yua s sep)]) | _ => none)
theorem yfc : zay Tryz.prog (yfb std) := by
 intro xs p r h hp
 dsimp only [yfb] at h |-
 split at h <;> cases h
 try simp only [L2, L3, std] at hp |-
 rename_i s sep
 obtain ⟨p1, p2⟩ : ztx sep /\ s.length <= 1000000000 := hp
 refine za5 (T := tt) (S := fun L => zai [yoy L]) (lo := noA) (lb := noA) 5 (fn := Tryz.f135) rfl rfl (by kernel_rfl) (by kernel_rfl) rfl zaa (za1 ⟨yjh, trivial⟩) (by kernel_rfl) ?_
 (intro L P1 Q1 hL hP hQ; cbv; subst hL; simp only [L2, L3, std, syT]; subst hQ)
 (simp only [syS, reduceCtorEq, Int.reduceToNat, Int.reduceAdd, Int.reduceSub])
 have hl := ytm s (by1 sep)
 refine ⟨p1, fun h => ?_, fun h => ?_⟩
 · have := (zry (c := by1 sep) (s := s) (by show ¬ zkr s sep < 0; omega)).2.2
   have e0 : ¬ zkr s sep < 0 := by omega
   have e1 : (sep.length : Int) = 1 := by rw [p1]; rfl
   have hl : -1 <= zkr s sep /\ zkr s sep <= s.length := hl
   have this : (zkr s sep).toNat < s.length := this
   rw [e1, show (zkr s sep + 1 + 9223372036854775808) % 18446744073709551616 - 9223372036854775808 = zkr s sep + 1 by omega]
   refine ⟨by omega, by omega, (if_neg e0).symm, ?_, (decide_eq_true h).symm⟩
   rw [yfd, if_neg e0, show (zkr s sep + 1).toNat = (zkr s sep).toNat + 1 by omega]
 · exact ⟨(if_pos (by omega)).symm, (if_pos (by omega)).symm, (decide_eq_false (by omega)).symm⟩
theorem yk3 : zay Tryz.prog (yps std) := by
 intro xs p r h hp
 dsimp only [yps] at h |-
 split at h <;> cases h
 try simp only [L2, L3, std] at hp |-
 rename_i s sep
 obtain ⟨p1, p2⟩ : ztx sep /\ s.length <= 1000000000 := hp
 refine za5 (T := tt) (S := fun L => zai [yfb L]) (lo := noA) (lb := noA) 5 (fn := Tryz.f128) rfl rfl (by kernel_rfl) (by kernel_rfl) rfl zaa (za1 ⟨yfc, trivial⟩) (by kernel_rfl) ?_
 (intro L P1 Q1 hL hP hQ; cbv; subst hL; simp only [L2, L3, std, syT]; subst hQ)
 (simp only [syS, reduceCtorEq, Int.reduceToNat, Int.reduceAdd, Int.reduceSub])
 exact ⟨p1, p2⟩
def zg0 (c : UInt8) (s : List UInt8) : Nat -> List UInt8
 | 0 => s
 | i + 1 => (zg0 c s i).drop ((Lib.indexByte (zg0 c s i) c).toNat + 1)
theorem zhx (c : UInt8) (s : List UInt8) : ∀ i, i <= s.count c -> zbc c (zg0 c s i) = (zbc c s).drop i /\ (zg0 c s i).length <= s.length
 | 0, _ => by simp [zg0]
 | i + 1, h => by
   obtain ⟨ih, hl⟩ := zhx c s i (by omega)
   have hlen := congrArg List.length ih
   rw [zbw, List.length_drop, zbw] at hlen
   have hn : ¬ Lib.indexByte (zg0 c s i) c < 0 := by
     intro hn
     have h0 := zha (yeh hn)
     have := congrArg List.length h0
     rw [zbw] at this
     simp at this
     omega
   obtain ⟨h1, h2, h3⟩ := zry hn
   have e := zm5 h2 h1
   rw [ih] at e
   have e2 := congrArg (List.drop 1) e
   rw [List.drop_drop, List.drop_succ_cons, List.drop_zero] at e2
   refine ⟨by rw [zg0, <- e2], ?_⟩
   rw [zg0, List.length_drop]; omega
theorem zpc {c : UInt8} {s : List UInt8} {i : Nat} (h : i < s.count c) : 0 <= Lib.indexByte (zg0 c s i) c /\ (Lib.indexByte (zg0 c s i) c).toNat < (zg0 c s i).length /\ zu3 (zbc c s) i = (zg0 c s i).take (Lib.indexByte (zg0 c s i) c).toNat := by
 obtain ⟨ih, hl⟩ := zhx c s i (by omega)
 have hlen := congrArg List.length ih
 rw [zbw, List.length_drop, zbw] at hlen
 have hn : ¬ Lib.indexByte (zg0 c s i) c < 0 := by
   intro hn
   have h0 := zha (yeh hn)
   have := congrArg List.length h0
   rw [zbw] at this
   simp at this
   omega
 obtain ⟨h1, h2, h3⟩ := zry hn
 refine ⟨by omega, h3, ?_⟩
 have e := zm5 h2 h1
 rw [ih] at e
 have hlt : i < (zbc c s).length := by rw [zbw]; omega
 rw [zu3, List.getD_eq_getElem?_getD, List.getElem?_eq_getElem hlt]
 rw [List.drop_eq_getElem_cons hlt] at e
 exact (List.cons.inj e).1
theorem ycn (c : UInt8) (s : List UInt8) : zu3 (zbc c s) (s.count c) = zg0 c s (s.count c) := by
 obtain ⟨ih, hl⟩ := zhx c s (s.count c) (Nat.le_refl _)
 have hlen := congrArg List.length ih
 rw [zbw, List.length_drop, zbw] at hlen
 have hc : (zg0 c s (s.count c)).count c = 0 := by omega
 have h0 : zbc c (zg0 c s (s.count c)) = [zg0 c s (s.count c)] := zha (fun k hk => by
   have := List.count_pos_iff.2 (List.mem_of_getElem? hk)
   omega)
 rw [h0] at ih
 have hlt : s.count c < (zbc c s).length := by rw [zbw]; omega
 rw [zu3, List.getD_eq_getElem?_getD, List.getElem?_eq_getElem hlt]
 rw [List.drop_eq_getElem_cons hlt] at ih
 exact (List.cons.inj ih).1.symm
def zhc (s sep : List UInt8) (i : Nat) : List UInt8 := zg0 (by1 sep) s i
def zzk (s sep : List UInt8) (i j : Nat) : List UInt8 := if j < i then zu3 (zm4 s sep) j else []
def cntB (s sep : List UInt8) : Nat := s.count (by1 sep)
theorem yue (s sep : List UInt8) : cntB s sep <= s.length := List.count_le_length
def splA (L : za9) (s sep : List UInt8) : Nat -> St -> Option Ann := fun id st => match id with
 | 0 => some ⟨Nat, fun i => [(0, .str (L3 L zhc s sep i)), (10, .int .i64 (L zbu i)), (9, .sl 900 1 0 (L (fun n : Nat => n + 1) (L2 L cntB s sep))), (3, .int .i64 (L zbu (L2 L cntB s sep)))],
     fun i => [(900, .row 9 1 (L (fun n : Nat => n + 1) (L2 L cntB s sep)) (fun j _ => .str (L (L3 L zzk s sep i) j)))], [1, 2], [],
     fun i => L3 L (fun s sep i => i <= cntB s sep) s sep i, fun i => L3 L (fun s sep i => cntB s sep - i) s sep i⟩
 | _ => none
theorem yla (q : Nat) (v : List UInt8) (f : Nat -> List UInt8) (i j : Nat) (h : j < 1) : over std q 0 1 [.str v] (fun i _ => .str (f i)) i j = .str (if i = q then v else f i) := by
 have : j = 0 := by omega
 subst this
 rw [zpl, if_pos ⟨Nat.le_refl _, by omega⟩]
 by_cases h : i = q
 · subst h; simp [za6, zid, L3, std, zby]
 · simp [zao h, zid, L3, std, zby, h]
def nev (f : Nat) : zbn := (f, fun _ => some (False, .dead))
theorem yih (f : Nat) : zay Tryz.prog (nev f) := by
 intro xs p r h hp
 cases h
 exact hp.elim
def yp3 (L : za9) : zbn := (136, fun xs => match xs with
 | [.str s, .str sep, .int .i64 a, .int .i64 b] => some (L ztx sep /\ L2 L upto 1000000000 s /\ L2 L (fun a b : Int => a = 0 /\ b = -1) a b, lstS L (L2 L zm4 s sep))
 | _ => none)
theorem yjk : zay Tryz.prog (yp3 std) := by
 intro xs p r h hp
 dsimp only [yp3] at h |-
 split at h <;> cases h
 try simp only [L2, L3, std] at hp |-
 rename_i s sep a b
 obtain ⟨p1, p2, rfl, rfl⟩ : ztx sep /\ s.length <= 1000000000 /\ a = 0 /\ b = -1 := hp
 refine za5 (T := tt) (S := fun L => zai [yot L, ypx L, nev 141]) (lo := fun L => splA L s sep) (lb := noA) 5 (fn := Tryz.f136) rfl rfl (by kernel_rfl) (by kernel_rfl) rfl zaa (za1 ⟨yje, yka, yih _, trivial⟩) (by kernel_rfl) ?_
 intro L P' Q' hL hP hQ
 (cbv; try simp only [syT, true_and, and_true])
 have hc : cntZ s sep = (cntB s sep : Int) := rfl
 have hle := yue s sep
 have hsep : sep ≠ [] := fun e => by rw [e] at p1; cases p1
 refine ⟨fun h => ?_, fun h1 => ⟨fun h => ?_, fun h2 => ⟨fun h3 => ⟨?_, ?_, ⟨0, ?_⟩, fun i hi => ?_⟩, fun h3 => ?_⟩⟩⟩
 · (subst hL; subst hQ; simp only [L2, L3, std] at *; try simp only [syS, reduceCtorEq, Int.reduceToNat, Int.reduceAdd, Int.reduceSub] at *)
 · (subst hL; subst hQ; simp only [L2, L3, std] at *; try simp only [syS, reduceCtorEq, Int.reduceToNat, Int.reduceAdd, Int.reduceSub] at *)
   exact absurd h hsep
 · (subst hL; subst hQ; simp only [L2, L3, std] at *; try simp only [syS, reduceCtorEq, Int.reduceToNat, Int.reduceAdd, Int.reduceSub] at *)
   exact p1
 · (subst hL; subst hQ; simp only [L2, L3, std] at *; try simp only [syS, reduceCtorEq, Int.reduceToNat, Int.reduceAdd, Int.reduceSub] at *)
   rw [hc]
   omega
 · (cbv; try simp only [syT, true_and, and_true])
   (subst hL; subst hQ; simp only [L2, L3, std] at *; try simp only [syS, reduceCtorEq, Int.reduceToNat, Int.reduceAdd, Int.reduceSub] at *)
   rw [hc, show min (((cntB s sep : Nat) + 1 + 9223372036854775808 : Int) % 18446744073709551616 - 9223372036854775808) (((s.length : Nat) + 1 + 9223372036854775808 : Int) % 18446744073709551616 - 9223372036854775808) = (cntB s sep : Nat) + 1 by omega]
   refine ⟨⟨by omega, fun k j hk hj => ?_⟩, by omega, by omega, rfl, Nat.zero_le _⟩
   rw [zzk, if_neg (by omega)]
   match j, hj with
   | 0, _ => rfl
 · cbv at hi
   (cbv; try simp only [syT, true_and, and_true])
   refine ⟨fun h4 => ⟨?_, fun h5 => ?_, fun h5 => ⟨?_, ?_, ?_, i + 1, ?_⟩⟩, fun h4 => ⟨?_, ?_, ?_⟩⟩
   · (subst hL; subst hQ; simp only [L2, L3, std] at *; try simp only [syS, reduceCtorEq, Int.reduceToNat, Int.reduceAdd, Int.reduceSub] at *)
     exact p1
   · (subst hL; subst hQ; simp only [L2, L3, std] at *; try simp only [syS, reduceCtorEq, Int.reduceToNat, Int.reduceAdd, Int.reduceSub] at *)
     obtain ⟨r1, r2, r3⟩ := zpc (c := by1 sep) (s := s) (i := i) (show i < cntB s sep by omega)
     exfalso
     have h5 : Lib.indexByte (zg0 (by1 sep) s i) (by1 sep) < 0 := h5
     omega
   · (subst hL; subst hQ; simp only [L2, L3, std] at *; try simp only [syS, reduceCtorEq, Int.reduceToNat, Int.reduceAdd, Int.reduceSub] at *)
     obtain ⟨r1, r2, r3⟩ := zpc (c := by1 sep) (s := s) (i := i) (show i < cntB s sep by omega)
     obtain ⟨q1, q2⟩ := zhx (by1 sep) s i hi
     have r1 : 0 <= zkr (zhc s sep i) sep := r1
     have r2 : (zkr (zhc s sep i) sep).toNat < (zhc s sep i).length := r2
     have q2 : (zhc s sep i).length <= s.length := q2
     omega
   · (subst hL; subst hQ; simp only [L2, L3, std] at *; try simp only [syS, reduceCtorEq, Int.reduceToNat, Int.reduceAdd, Int.reduceSub] at *)
     omega
   · (subst hL; subst hQ; simp only [L2, L3, std] at *; try simp only [syS, reduceCtorEq, Int.reduceToNat, Int.reduceAdd, Int.reduceSub] at *)
     obtain ⟨r1, r2, r3⟩ := zpc (c := by1 sep) (s := s) (i := i) (show i < cntB s sep by omega)
     obtain ⟨q1, q2⟩ := zhx (by1 sep) s i hi
     have r1 : 0 <= zkr (zhc s sep i) sep := r1
     have r2 : (zkr (zhc s sep i) sep).toNat < (zhc s sep i).length := r2
     have q2 : (zhc s sep i).length <= s.length := q2
     have e1 : (sep.length : Int) = 1 := by rw [p1]; rfl
     omega
   · (cbv; try simp only [syT, true_and, and_true])
     (subst hL; subst hQ; simp only [L2, L3, std] at *; try simp only [syS, reduceCtorEq, Int.reduceToNat, Int.reduceAdd, Int.reduceSub] at *)
     obtain ⟨r1, r2, r3⟩ := zpc (c := by1 sep) (s := s) (i := i) (show i < cntB s sep by omega)
     obtain ⟨q1, q2⟩ := zhx (by1 sep) s i hi
     have r1 : 0 <= zkr (zhc s sep i) sep := r1
     have r2 : (zkr (zhc s sep i) sep).toNat < (zhc s sep i).length := r2
     have q2 : (zhc s sep i).length <= s.length := q2
     have e1 : (sep.length : Int) = 1 := by rw [p1]; rfl
     refine ⟨fun k j hk hj => ?_, by omega, ?_, by omega, by omega⟩
     · rw [yla _ _ _ _ _ hj]
       congr 1
       by_cases hki : k = i
       · subst hki
         rw [if_pos rfl, zzk, if_pos (by omega), show (zkr (zhc s sep k) sep + 0 + 9223372036854775808) % 18446744073709551616 - 9223372036854775808 = zkr (zhc s sep k) sep by omega]
         exact r3.symm
       · rw [if_neg hki, zzk, zzk]
         by_cases hlt : k < i
         · rw [if_pos hlt, if_pos (by omega)]
         · rw [if_neg hlt, if_neg (by omega)]
     · rw [e1, show ((zkr (zhc s sep i) sep + 1 + 9223372036854775808) % 18446744073709551616 - 9223372036854775808).toNat = (zkr (zhc s sep i) sep).toNat + 1 by omega]
       rfl
   · (subst hL; subst hQ; simp only [L2, L3, std] at *; try simp only [syS, reduceCtorEq, Int.reduceToNat, Int.reduceAdd, Int.reduceSub] at *)
     omega
   · (subst hL; subst hQ; simp only [L2, L3, std] at *; try simp only [syS, reduceCtorEq, Int.reduceToNat, Int.reduceAdd, Int.reduceSub] at *)
     omega
   · (subst hL; subst hQ; simp only [L2, L3, std] at *; try simp only [syS, reduceCtorEq, Int.reduceToNat, Int.reduceAdd, Int.reduceSub] at *)
     have hi' : i = cntB s sep := by omega
     subst hi'
     rw [show ((cntB s sep : Nat) + 1 + 9223372036854775808 : Int) % 18446744073709551616 - 9223372036854775808 = ((cntB s sep + 1 : Nat) : Int) by omega, Int.toNat_natCast]
     show zh6 (.lst 1 (zbc (by1 sep) s).length _) _
     rw [zqe, zbw]
     refine ⟨rfl, fun k j hk hj => ?_⟩
     rw [yla _ _ _ _ _ hj]
     congr 1
     by_cases hki : k = cntB s sep
     · rw [if_pos hki, hki]; exact (ycn _ _).symm
     · have hk : k < cntB s sep + 1 := hk
       rw [if_neg hki, zzk, if_pos (by omega)]
       rfl
 · (subst hL; subst hQ; simp only [L2, L3, std] at *; try simp only [syS, reduceCtorEq, Int.reduceToNat, Int.reduceAdd, Int.reduceSub] at *)
   exact absurd h3 (by decide)
def ymg (L : za9) : zbn := (129, fun xs => match xs with | [.str s, .str sep] => some (L ztx sep /\ L2 L upto 1000000000 s, lstS L (L2 L zm4 s sep)) | _ => none)
theorem yh0 : zay Tryz.prog (ymg std) := by
 intro xs p r h hp
 dsimp only [ymg] at h |-
 split at h <;> cases h
 try simp only [L2, L3, std] at hp |-
 rename_i s sep
 obtain ⟨p1, p2⟩ : ztx sep /\ s.length <= 1000000000 := hp
 refine za5 (T := tt) (S := fun L => zai [yp3 L]) (lo := noA) (lb := noA) 5 (fn := Tryz.f129) rfl rfl (by kernel_rfl) (by kernel_rfl) rfl zaa (za1 ⟨yjk, trivial⟩) (by kernel_rfl) ?_
 (intro L P1 Q1 hL hP hQ; cbv; subst hL; simp only [L2, L3, std, syT]; subst hQ)
 (simp only [syS, reduceCtorEq, Int.reduceToNat, Int.reduceAdd, Int.reduceSub])
 refine ⟨⟨p1, p2⟩, ?_⟩
 show zh6 (.lst 1 (yj7 (zm4 s sep)) _) _
 rw [zqe]
 exact ⟨rfl, fun i j hi hj => rfl⟩
def toS : AV -> List UInt8
 | .str s => s
 | _ => []
def zev (n : Nat) (get : Nat -> Nat -> AV) : List (List UInt8) := (List.range n).map fun i => toS (get i 0)
def jnZ (sep : List UInt8) (x : AV) : List UInt8 := match x with
 | .lst _ n get => Lib.join (zev n get) sep
 | _ => []
def yxk (sep : List UInt8) (x : AV) : Prop := match x with
 | .lst 1 n get => (∀ i, i < n -> ∃ s, get i 0 = .str s) /\ n <= 1000000 /\ (Lib.join (zev n get) sep).length <= 140737488355328
 | .nils => True
 | _ => False
def yxj (L : za9) : zbn := (133, fun xs => match xs with | [x, .str sep] => some (L2 L yxk sep x, .str (L2 L jnZ sep x)) | _ => none)
theorem yuv {h : Array Obj} {D : Nat -> Prop} {x y : AV} {vs : Array Value} (hr : RL h D zav [x, y] vs) : ∃ a b, vs = #[a, b] /\ R h D zav x a /\ R h D zav y b := by
 obtain ⟨hl, hr⟩ := hr
 obtain ⟨a, b, ha⟩ : ∃ a b, vs.toList = [a, b] := by
   have hl : vs.toList.length = 2 := by simpa using hl.symm
   match vs.toList, hl with
   | [a, b], _ => exact ⟨a, b, rfl⟩
 have : vs = #[a, b] := by rw [<- Array.toArray_toList (xs := vs), ha]
 subst this
 exact ⟨a, b, rfl, hr 0 x a rfl rfl, hr 1 y b rfl rfl⟩
theorem yok : zay Tryz.prog (yxj std) := by
 intro xs p r h hp
 dsimp only [yxj] at h |-
 split at h <;> cases h
 try simp only [L2, L3, std] at hp |-
 rename_i x sep
 have hp : yxk sep x := hp
 intro D w vs hD hxs hg
 obtain ⟨a, b, rfl, rx, ry⟩ := yuv hxs
 obtain rfl := ybb ry
 unfold zfp
 rw [zd8 (fn := Tryz.f133) rfl (by kernel_rfl) rfl]
 have fin : ∀ (l : List UInt8), l = jnZ sep x -> (∀ w', Below w.heap.size w w' -> ∃ v D', Ending.returned (.string ⟨l.toArray⟩) = .returned v /\ Below w.heap.size w w' /\ (∀ b, D b -> D' b) /\ (∀ b, D' b -> D b \/ (w.heap.size <= b /\ b < w'.heap.size)) /\ R w'.heap D' zav (.str (jnZ sep x)) v) := by
   rintro l rfl w' hw
   exact ⟨_, D, rfl, hw, fun _ h => h, fun b hb => .inl hb, znp _ _ _ _⟩
 have none_ : jnZ sep x = [] -> ∀ (a : Option Addr) (c : Nat), Calls Tryz.prog 133 #[.slice a 0 c, .string ⟨sep.toArray⟩] w fun e w' => ∃ v D', e = .returned v /\ Below w.heap.size w w' /\ (∀ b, D b -> D' b) /\ (∀ b, D' b -> D b \/ (w.heap.size <= b /\ b < w'.heap.size)) /\ R w'.heap D' zav (.str (jnZ sep x)) v := by
   intro h0 a c
   refine (Tryz.strings_Join_none a c ⟨sep.toArray⟩ w).mono ?_
   rintro e w' ⟨rfl, rfl⟩
   exact fin [] h0.symm _ (Below.refl _ _)
 unfold yxk at hp
 split at hp
 · rename_i n get _
   obtain ⟨h1, h2, h3⟩ := hp
   cases rx with
   | lst0 => exact none_ rfl _ _
   | lst _ _ _ b o cap us hD0 hc hv h1' hr =>
     have hl : (zev n get).length = n := by rw [zev, List.length_map, List.length_range]
     have hq : ∀ j x, ((zev n get).map (fun s : List UInt8 => (⟨s.toArray⟩ : ByteArray)))[j]? = some x -> w.cell? ⟨b, o + j, none⟩ = some (.string x) := by
       intro j x hj
       have hjn : j < n := by
         have := (List.getElem?_eq_some_iff.1 hj).1
         rw [List.length_map, hl] at this
         exact this
       obtain ⟨s, hs⟩ := h1 j hjn
       have r := hr j 0 hjn (by omega)
       rw [hs] at r
       have hv := hv j 0 hjn (by omega)
       rw [ybb r, Nat.mul_one, Nat.add_zero] at hv
       rw [znf, hv]
       have e2 : (zev n get)[j]? = some s := by rw [zev, List.getElem?_map, List.getElem?_range hjn, Option.map_some, hs]; rfl
       rw [List.getElem?_map, e2] at hj
       cases hj
       rfl
     have hm : ((zev n get).map (fun s : List UInt8 => (⟨s.toArray⟩ : ByteArray))).map (·.data.toList) = zev n get := by
       rw [List.map_map]
       exact List.map_id' _
     have := Tryz.strings_Join b o cap ((zev n get).map (fun s : List UInt8 => (⟨s.toArray⟩ : ByteArray))) ⟨sep.toArray⟩ w hq (hD b hD0) (by rw [List.length_map, hl]; omega) (by rw [List.length_map, hl]; exact hc) (by rw [hm]; exact h3)
     rw [hm, List.length_map, hl] at this
     refine this.mono ?_
     rintro e w' ⟨rfl, hw⟩
     exact fin _ rfl _ hw
 · cases rx
   exact none_ rfl _ _
 · exact hp.elim
end Sy
end Go.Proofs.YtcgikjfloloekaaGreatDoor
namespace Go.Proofs.YtcgikjfloloekaaGreatDoor
open Go Go.RowKit Go.Sort Go.Lib
set_option maxRecDepth 100000
set_option linter.unusedSimpArgs false
set_option linter.unusedVariables false
set_option maxHeartbeats 6400000 in
theorem ytt (u : Nat) (hu : u < 18446744073709551616) (w : World) (htab : Lib.TabIs Tryz.prog w "internal/strconv.uint64pow10" .u64 Lib.pow10Tab) :
   Calls Tryz.prog 146 #[.int .u64 u, .int .i64 10] w fun e w' => e = .returned (.string ⟨(Lib.decDigits u).toArray⟩) /\ Below w.heap.size w w' := by
 by_cases hs : u < 100
 · have hw : IntKind.i64.wrap (u : Int) = (u : Int) := by rw [IntKind.wrap_i64]; omega
   go_enter Tryz.func146, Tryz.ntmps146
   go_wp2_with (go_at_call 161; refine (Tryz.internal_strconv_small u hs _).mono ?_; rintro e w' ⟨rfl, rfl⟩)
   go_ret
   exact ⟨rfl, Below.refl _ _⟩
 · have hu1 : 1 <= u := by omega
   have hnd20 : Lib.nDigits u <= 20 := by have := Lib.numDigits_eq u hu1 hu; split at this <;> omega
   have hal : Tryz.prog.arrayLen 234 = 24 := by kernel_rfl
   have hsl1 : ∀ W, (Instr.sliceAt 234 (.pointer (some ⟨w.heap.size, 0, none⟩)) none (some (.int .i64 (Lib.nDigits u : Int))) none).run Tryz.prog W = .ok (.slice (some ⟨w.heap.size, 0, none⟩) (Lib.nDigits u) 24) W := fun W => by
     rw [run_sliceAt_array_h W 234 ⟨w.heap.size, 0, none⟩ (by simp [Program.arrayLen, Program.elem, Tryz.underlying234]) .i64 (Lib.nDigits u : Int) (by omega) (by rw [hal]; omega)]
     go_simp
     first | done | omega
   have hH0 := Lib.holds_zero0 w 234 (Lib.nDigits u) (by omega)
   have hfmt := Tryz.internal_strconv_formatBase10 w.heap.size 0 24 u (Array.replicate (Lib.nDigits u) 0) (w.alloc (.cells Lib.zeros24 234)) hH0 (by rw [Array.size_replicate]; exact Lib.lt_pow_nDigits u) hu (by rw [Array.size_replicate]; omega)
   rw [Array.size_replicate] at hfmt
   have HH0 := Lib.hid hH0
   clear hH0 hal
   go_enter Tryz.func146, Tryz.ntmps146
   go_wp2_with (first
     | (go_at_call 162; refine (Tryz.internal_strconv_numDigits u hu1 hu _ (Lib.tabIs_alloc htab _)).mono ?_; rintro e w' ⟨rfl, rfl⟩))
   refine hfmt.mono ?_
   rintro e w' ⟨rfl, k, v', dk, rfl, hF⟩
   have hcv : (convert 139 9 (.slice (some ⟨w.heap.size, 0, none⟩) (Lib.nDigits u) 24)).run Tryz.prog ((putRow (fun (b : UInt8) => Value.int .u8 (b.toNat : Int)) (w.alloc (.cells Lib.zeros24 234)) w.heap.size 0 dk).drewN k) = .ok (.string ⟨(Lib.decDigits u).toArray⟩) ((putRow (fun (b : UInt8) => Value.int .u8 (b.toNat : Int)) (w.alloc (.cells Lib.zeros24 234)) w.heap.size 0 dk).drewN k) := by
     have h := run_convert_bytes_back (P := Tryz.prog) ((putRow (fun (b : UInt8) => Value.int .u8 (b.toNat : Int)) (w.alloc (.cells Lib.zeros24 234)) w.heap.size 0 dk).drewN k) 139 9 5 ⟨w.heap.size, 0, none⟩ 24 (Lib.decDigits u) Tryz.underlying139 Tryz.underlying5 Tryz.underlying9 (fun j hj => by
       rw [Lib.row_is_numeral hF j hj, Lib.add_plain, World.cell?_drewN]
       exact cell?_putRow (fun (b : UInt8) => Value.int .u8 (b.toNat : Int)) _ w.heap.size 0 _ dk HH0.out (by rw [hF.size, Array.size_replicate]) j (by rw [hF.size]; rw [Lib.decDigits_length] at hj; exact hj))
     rw [Lib.decDigits_length] at h
     exact h
   go_wp2
   go_ret
   obtain ⟨os, eo⟩ := Lib.fin_at w (.cells Lib.zeros24 234) dk k 0
   refine ⟨rfl, ?_⟩
   have := Lib.below_grow w.heap.size w (Nat.le_refl _) k os
   rw [<- eo] at this
   exact this
theorem ypa (u : Nat) (hu : u < 18446744073709551616) (w : World) (htab : Lib.TabIs Tryz.prog w "internal/strconv.uint64pow10" .u64 Lib.pow10Tab) :
   Calls Tryz.prog 138 #[.int .u64 u, .int .i64 10] w fun e w' => e = .returned (.string ⟨(Lib.decDigits u).toArray⟩) /\ Below w.heap.size w w' := by
 go_enter Tryz.func138, Tryz.ntmps138
 go_wp2_with (go_at_call 146; refine (ytt u hu _ htab).mono ?_; rintro e w' ⟨rfl, hw⟩)
 go_ret
 exact ⟨rfl, hw⟩
end Go.Proofs.YtcgikjfloloekaaGreatDoor
namespace Go.Proofs.YtcgikjfloloekaaGreatDoor
namespace Sy
open Go Go.RowKit
set_option maxRecDepth 100000
set_option linter.unusedSimpArgs false
set_option linter.unusedVariables false
theorem zla {P : Program} {f : FuncId} {fn : Func} {c : Code} {xs : List AV} {args : Array Value} {r : AV} (hf : P.funcs[f]? = some fn) (hb : fn.body = some c) (hn : (fn.name == "runtime.NumGoroutine") = false)
   (ha : ∀ h D vs, RL h D zav xs vs -> vs = args) (h : ∀ w, GOk w -> Calls P f args w fun e w' => ∃ v, e = .returned v /\ Below w.heap.size w w' /\ ∀ h D, R h D zav r v) : za7 P f xs r := by
 intro D w vs hD hxs hg
 have := ha _ _ _ hxs
 subst this
 unfold zfp
 rw [zd8 hf hn hb]
 refine (h w hg).mono ?_
 rintro e w' ⟨v, rfl, hw, hv⟩
 exact ⟨v, D, rfl, hw, fun _ h => h, fun b hb => .inl hb, hv _ _⟩
theorem args3 {x y z : AV} {v u t : Value} (hx : zsu x v) (hy : zsu y u) (hz : zsu z t) : ∀ h D vs, RL h D zav [x, y, z] vs -> vs = #[v, u, t] := by
 intro h D vs ⟨hl, hr⟩
 obtain ⟨a, b, c, ha⟩ : ∃ a b c, vs.toList = [a, b, c] := by
   have hl : vs.toList.length = 3 := by simpa using hl.symm
   match vs.toList, hl with
   | [a, b, c], _ => exact ⟨a, b, c, rfl⟩
 have : vs = #[a, b, c] := by rw [<- Array.toArray_toList (xs := vs), ha]
 subst this
 rw [hx _ _ a (hr 0 x a rfl rfl), hy _ _ b (hr 1 y b rfl rfl), hz _ _ c (hr 2 z c rfl rfl)]
def zdm (n : Int) : List UInt8 := Lib.decDigits n.toNat
def zm2 (n : Int) : Prop := 0 <= n /\ n < 18446744073709551616
def yp9 (L : za9) : zbn := (138, fun xs => match xs with | [.int .u64 n, .int .i64 b] => some (L2 L (fun n b : Int => zm2 n /\ b = 10) n b, .str (L zdm n)) | _ => none)
theorem yjp : zay Tryz.prog (yp9 std) := by
 intro xs p r h hp
 dsimp only [yp9] at h |-
 split at h <;> cases h
 try simp only [L2, L3, std] at hp |-
 rename_i n b
 obtain ⟨⟨h0, h1⟩, h2⟩ : zm2 n /\ b = 10 := hp
 subst h2
 obtain ⟨u, rfl⟩ := zjq h0
 refine zla (fn := Tryz.f138) rfl rfl (by kernel_rfl) (zvi (zcm _ _) (zcm _ _)) (fun w hg => (ypa u (by omega) w hg.2.1).mono ?_)
 rintro e w' ⟨rfl, hw⟩
 exact ⟨_, rfl, hw, fun h D => znp h D _ _⟩
def yhz (s : List UInt8) : Int := match Lib.parseUintB 64 s with | .ok u => u | .syntax => 0 | .range => 18446744073709551615
def ygm (s : List UInt8) : Bool := match Lib.parseUintB 64 s with | .ok _ => true | _ => false
def ynb (L : za9) : zbn := (137, fun xs => match xs with | [.str s, .int .i64 b, .int .i64 z] => some (L3 L (fun (s : List UInt8) (b z : Int) => s.length <= 140737488355328 /\ b = 10 /\ z = 64) s b z, .tup [.int .u64 (L yhz s), .ifb (L ygm s)]) | _ => none)
theorem yb3 {x y : AV} {v u : Value} {h : Array Obj} {D : Nat -> Prop} (hx : R h D zav x v) (hy : R h D zav y u) : R h D zav (.tup [x, y]) (.tuple #[v, u]) := by
 refine .tup _ _ rfl ?_
 intro i z t hz ht
 match i with
 | 0 => simp at hz ht; subst hz ht; exact hx
 | 1 => simp at hz ht; subst hz ht; exact hy
 | i + 2 => simp at hz
theorem yhy : zay Tryz.prog (ynb std) := by
 intro xs p r h hp
 dsimp only [ynb] at h |-
 split at h <;> cases h
 try simp only [L2, L3, std] at hp |-
 rename_i s b z
 obtain ⟨h0, h1, h2⟩ : s.length <= 140737488355328 /\ b = 10 /\ z = 64 := hp
 subst h1; subst h2
 have hs : (⟨s.toArray⟩ : ByteArray).size = s.length := by show s.toArray.size = s.length; simp
 have hd : (⟨s.toArray⟩ : ByteArray).data.toList = s := rfl
 refine zla (fn := Tryz.f137) rfl rfl (by kernel_rfl) (args3 (zbz _) (zcm _ _) (zcm _ _)) (fun w hg => ?_)
 obtain ⟨-, -, ⟨t2, p2, g2⟩, t3, p3, g3⟩ := hg
 cases hq : Lib.parseUintB 64 s with
 | ok u =>
   refine (Tryz.strconv_ParseUint_10_at64_ok ⟨s.toArray⟩ (by rw [hs]; omega) u (by rw [hd]; exact hq) w).mono ?_
   rintro e w' ⟨rfl, hw⟩
   refine ⟨_, rfl, ?_, fun h D => yb3 ?_ ?_⟩
   · rcases hw with rfl | rfl
     · exact Below.refl _ _
     · exact Lib.bytesWorld_below _ _ _
   · show R h D zav (.int .u64 (yhz s)) _
     rw [yhz, hq]; exact .int _ _
   · show R h D zav (.ifb (ygm s)) _
     rw [ygm, hq]; exact .ifn
 | «syntax» =>
   refine (Tryz.strconv_ParseUint_10_at64_syntax_var ⟨s.toArray⟩ (by rw [hs]; omega) (by rw [hd]; exact hq) t2 p2 w g2).mono ?_
   rintro e w' ⟨N, rfl, hN, hc, hw⟩
   refine ⟨_, rfl, hw, fun h D => yb3 ?_ ?_⟩
   · show R h D zav (.int .u64 (yhz s)) _
     rw [yhz, hq]; exact .int _ _
   · show R h D zav (.ifb (ygm s)) _
     rw [ygm, hq]; exact .ifs _ _
 | range =>
   refine (Tryz.strconv_ParseUint_10_at64_range_var ⟨s.toArray⟩ (by rw [hs]; omega) (by rw [hd]; exact hq) t3 p3 w g3).mono ?_
   rintro e w' ⟨N, rfl, hN, hc, hw⟩
   refine ⟨_, rfl, hw, fun h D => yb3 ?_ ?_⟩
   · show R h D zav (.int .u64 (yhz s)) _
     rw [yhz, hq]; exact .int _ _
   · show R h D zav (.ifb (ygm s)) _
     rw [ygm, hq]; exact .ifs _ _
def isD (c : UInt8) : Bool := decide (48 <= c.toNat) && decide (c.toNat <= 57)
def dcS (a : Nat) (c : UInt8) : Nat := a * 10 + (c.toNat - 48)
def znz (a : Nat) (l : List UInt8) : Nat := l.foldl dcS a
theorem zlv (a : Nat) : znz a [] = a := by unfold znz; exact List.foldl_nil
theorem zk4 (a : Nat) (c : UInt8) (r : List UInt8) : znz a (c :: r) = znz (a * 10 + (c.toNat - 48)) r := by unfold znz; exact List.foldl_cons ..
theorem zx3 (l : List UInt8) (c : UInt8) (a : Nat) : znz a (l ++ [c]) = znz a l * 10 + (c.toNat - 48) := by
 unfold znz
 rw [List.foldl_append, List.foldl_cons, List.foldl_nil, dcS]
theorem zuy : ∀ (l : List UInt8) (a : Nat), a <= znz a l
 | [], a => by rw [zlv]; exact Nat.le_refl _
 | c :: r, a => by rw [zk4]; exact Nat.le_trans (by omega) (zuy r _)
theorem zis {c : UInt8} : isD c = true ↔ 48 <= c.toNat /\ c.toNat <= 57 := by
 simp [isD]
theorem yl7 : ∀ (l : List UInt8) (a : Nat), l.all isD = true -> a < 18446744073709551616 -> Lib.parseUintM 18446744073709551615 a l = if znz a l < 18446744073709551616 then .ok (znz a l) else .range
 | [], a, _, ha => by
   rw [zlv, if_pos ha, Lib.parseUintM]
 | c :: r, a, h, ha => by
   rw [List.all_cons, Bool.and_eq_true] at h
   obtain ⟨h1, h2⟩ := h
   rw [zis] at h1
   rw [Lib.parseUintM, if_pos h1, zk4]
   have hge := zuy r (a * 10 + (c.toNat - 48))
   split
   · rw [if_neg (by omega)]
   · split
     · rw [if_neg (by omega)]
     · exact yl7 r _ h2 (by omega)
theorem ync {l : List UInt8} (h : l.all isD = true) (h0 : l ≠ []) : Lib.parseUintB 64 l = if znz 0 l < 18446744073709551616 then .ok (znz 0 l) else .range := by
 rw [Lib.parseUintB, if_neg h0]
 exact yl7 l 0 h (by decide)
def zu2 (s : List UInt8) : Bool := s.all isD && !(s == []) && (!(zlc s 0 == 48) || s == [48])
def zt0 (s : List UInt8) : Int := if zu2 s = true then (if znz 0 s < 18446744073709551616 then 0 else 7) else 4
def wnV (s : List UInt8) : Int := if zt0 s = 0 then znz 0 s else 0
def ypo (L : za9) : zbn := (132, fun xs => match xs with | [.int .u64 n] => some (L zm2 n, .str (L zdm n)) | _ => none)
theorem yjz : zay Tryz.prog (ypo std) := by
 intro xs p r h hp
 dsimp only [ypo] at h |-
 split at h <;> cases h
 try simp only [L2, L3, std] at hp |-
 rename_i n
 have hn : zm2 n := hp
 refine za5 (T := tt) (S := fun L => zai [yp9 L]) (lo := noA) (lb := noA) 5 (fn := Tryz.f132) rfl rfl (by kernel_rfl) (by kernel_rfl) rfl zaa (za1 ⟨yjp, trivial⟩) (by kernel_rfl) ?_
 (intro L P1 Q1 hL hP hQ; cbv; subst hL; simp only [L2, L3, std, syT]; subst hQ)
 refine ⟨⟨hn, trivial⟩, ?_⟩
 rw [zx0]
def yic (s : List UInt8) (i : Nat) : Prop := i <= s.length /\ (s.take i).all isD = true
theorem ypb (a b c d : Int) : zh6 (.tup [.int .u64 a, .int .i64 b]) (.tup [.int .u64 c, .int .i64 d]) = (c = a /\ d = b) := by
 simp [sySet]
theorem zpq {s : List UInt8} (h : zu2 s = false) : 0 = wnV s /\ 4 = zt0 s := by
 have e : zt0 s = 4 := by rw [zt0, if_neg (by rw [h]; decide)]
 exact ⟨by rw [wnV, if_neg (by rw [e]; decide)], e.symm⟩
theorem ydk {s : List UInt8} {i : Nat} (hi : i < s.length) (h : zlc s (zbu i) < 48 \/ 57 < zlc s (zbu i)) : zu2 s = false := by
 have : s.all isD = false := by
   rw [List.all_eq_false]
   refine ⟨s[i], List.getElem_mem hi, ?_⟩
   rw [zis]
   rw [zlc, zbu, Int.toNat_natCast, List.getD_eq_getElem?_getD, List.getElem?_eq_getElem hi, Option.getD_some] at h
   omega
 rw [zu2, this]; rfl
theorem ynu {s : List UInt8} {i i' : Nat} (hi' : i' = i + 1) (h : yic s i) (hi : i < s.length) (h1 : ¬ zlc s (zbu i) < 48) (h2 : ¬ 57 < zlc s (zbu i)) : yic s i' := by
 subst hi'
 refine ⟨hi, ?_⟩
 rw [List.take_succ_eq_append_getElem hi, List.all_append, h.2, List.all_cons, List.all_nil]
 rw [zlc, zbu, Int.toNat_natCast, List.getD_eq_getElem?_getD, List.getElem?_eq_getElem hi, Option.getD_some] at h1 h2
 have : isD s[i] = true := zis.2 (by omega)
 rw [this]; rfl
theorem zwb {s : List UInt8} {i : Nat} (h : yic s i) (hi : ¬ i < s.length) : s.all isD = true := by
 have := h.2
 rw [List.take_of_length_le (by omega)] at this
 exact this
theorem zln {s : List UInt8} (h : s.all isD = true) (h0 : s ≠ []) (h1 : zlc s 0 ≠ 48 \/ s = [48]) : ((!ygm s) = true -> 0 = wnV s /\ 7 = zt0 s) /\ ((!ygm s) = false -> yhz s = wnV s /\ 0 = zt0 s) := by
 have ho : zu2 s = true := by
   rw [zu2, h]
   rcases h1 with h1 | h1
   · simp [h0, h1]
   · subst h1; rfl
 have hB := ync h h0
 rw [wnV, zt0, if_pos ho, ygm, yhz, hB]
 by_cases hl : znz 0 s < 18446744073709551616
 · rw [if_pos hl, if_pos hl]
   exact ⟨fun h => by simp at h, fun _ => ⟨rfl, rfl⟩⟩
 · rw [if_neg hl, if_neg hl]
   exact ⟨fun _ => ⟨rfl, rfl⟩, fun h => by simp at h⟩
def nuA (L : za9) (s : List UInt8) : Nat -> St -> Option Ann := fun id st => match id with
 | 0 => some ⟨Nat, fun i => [(9, .int .i64 (L zbu i))], fun _ => [], [0, 8], [], fun i => L2 L yic s i, fun i => L2 L (fun (s : List UInt8) (i : Nat) => s.length - i) s i⟩
 | _ => none
def yau (L : za9) : zbn := (130, fun xs => match xs with | [.str s] => some (L2 L upto 1000000 s, .tup [.int .u64 (L wnV s), .int .i64 (L zt0 s)]) | _ => none)
theorem zhh {n k : Nat} (h : ilt (zbu n) (zbu k) = true) : n < k := by
 have := of_decide_eq_true h
 unfold zbu at this; omega
theorem zk3 {n k : Nat} (h : ilt (zbu n) (zbu k) = false) : ¬ n < k := by
 have := of_decide_eq_false h
 unfold zbu at this; omega
theorem yee {n k : Nat} (h : n < k) : inR (zbu n) (zbu k) = true := by rw [yop]; exact ⟨Int.natCast_nonneg _, by unfold zbu; omega⟩
theorem yii {n n' : Nat} (h : n' = n + 1) (h2 : n < 100000000) : yv8 .i64 (zbu n) 1 = zbu n' := by
 subst h; unfold zbu; rw [yv8, yrl]; omega
theorem zrm {s : List UInt8} (h : seq s [] = false) : s ≠ [] := by
 intro e; subst e; exact absurd h (by decide)
theorem ysw {s : List UInt8} (h : seq s [] = true) : zu2 s = false := by
 have : s = [] := by simpa [seq] using h
 subst this; rfl
theorem yst {s : List UInt8} (h : seq s [] = false) : inR 0 (slen s) = true := by
 have := zrm h
 rw [yop, slen]
 have : 0 < s.length := List.length_pos_iff.2 this
 omega
theorem yss {s : List UInt8} (h : (!seq s [48]) = false) : s = [48] := by
 have : seq s [48] = true := by simpa using h
 simpa [seq] using this
theorem yld {s : List UInt8} (h : ieq (zlc s 0) 48 = false) : zlc s 0 ≠ 48 := by
 simpa [ieq] using h
theorem ysv {s : List UInt8} (h : ieq (zlc s 0) 48 = true) (h2 : (!seq s [48]) = true) : zu2 s = false := by
 have h1 : zlc s 0 = 48 := by simpa [ieq] using h
 have h3 : ¬ s = [48] := by
   intro e; subst e; exact absurd h2 (by decide)
 rw [zu2, h1]
 simp [h3]
theorem yav : zay Tryz.prog (yau std) := by
 intro xs p r h hp
 dsimp only [yau] at h |-
 split at h <;> cases h
 try simp only [L2, L3, std] at hp |-
 rename_i s
 have hs : s.length <= 1000000 := hp
 refine za5 (T := tt) (S := fun L => zai [ynb L]) (lo := fun L => nuA L s) (lb := noA) 5 (fn := Tryz.f130) rfl rfl (by kernel_rfl) (by kernel_rfl) rfl zaa (za1 ⟨yhy, trivial⟩) (by kernel_rfl) ?_
 obtain ⟨n0, hn0⟩ : ∃ n : Nat, n = 0 := ⟨_, rfl⟩
 intro L P' Q' hL hP hQ
 (cbv; try simp only [syT, true_and, and_true])
 refine ⟨⟨n0, ?_⟩, fun i hi => ?_⟩
 · (cbv; try simp only [syT, true_and, and_true])
   subst hL; subst hQ; subst hn0
   exact ⟨rfl, Nat.zero_le _, by rw [List.take_zero]; rfl⟩
 obtain ⟨i', hi'⟩ : ∃ i' : Nat, i' = i + 1 := ⟨_, rfl⟩
 (cbv; try simp only [syT, true_and, and_true])
 refine ⟨fun h1 => ⟨?_, fun h2 => ?_, fun h2 => ⟨?_, fun h3 => ?_, fun h3 => ⟨i', ?_⟩⟩⟩, fun h1 => ⟨fun h2 => ?_, fun h2 => ⟨?_, fun h3 => ⟨fun h4 => ?_, fun h4 => ⟨?_, fun h5 => ?_, fun h5 => ?_⟩⟩, fun h3 => ⟨?_, fun h5 => ?_, fun h5 => ?_⟩⟩⟩⟩
 all_goals (try (cbv; try simp only [syT, true_and, and_true]))
 all_goals (subst hL; subst hQ)
 all_goals (try rw [ypb])
 · exact yee (k := s.length) (zhh h1)
 · exact zpq (ydk (zhh (k := s.length) h1) (.inl (of_decide_eq_true h2)))
 · exact yee (k := s.length) (zhh h1)
 · exact zpq (ydk (zhh (k := s.length) h1) (.inr (of_decide_eq_true h3)))
 · have hlt : i < s.length := zhh (k := s.length) h1
   refine ⟨yii hi' (by omega), ynu hi' hi hlt (of_decide_eq_false h2) (of_decide_eq_false h3), ?_⟩
   show s.length - i' + 1 <= s.length - i
   omega
 · exact zpq (ysw h2)
 · exact yst h2
 · exact zpq (ysv h3 h4)
 · exact ⟨by omega, rfl, rfl⟩
 · exact (zln (zwb hi (zk3 (k := s.length) h1)) (zrm h2) (.inr (yss h4))).1 h5
 · exact (zln (zwb hi (zk3 (k := s.length) h1)) (zrm h2) (.inr (yss h4))).2 h5
 · exact ⟨by omega, rfl, rfl⟩
 · exact (zln (zwb hi (zk3 (k := s.length) h1)) (zrm h2) (.inl (yld h3))).1 h5
 · exact (zln (zwb hi (zk3 (k := s.length) h1)) (zrm h2) (.inl (yld h3))).2 h5
theorem yb1 {N : Nat} (h : (N : Int) < 18446744073709551616) : N < 18446744073709551616 := by omega
theorem yu7 {n : Nat} (h : n < 10) : (UInt8.ofNat (48 + n)).toNat = 48 + n := by
 rw [UInt8.toNat_ofNat']; omega
theorem ylr (u : Nat) : (Lib.decDigits u).all isD = true /\ Lib.decDigits u ≠ [] /\ znz 0 (Lib.decDigits u) = u /\ (1 <= u -> zlc (Lib.decDigits u) 0 ≠ 48) := by
 induction u using Nat.strongRecOn with
 | _ u ih =>
   by_cases h : u < 10
   · rw [Lib.decDigits_one h]
     have hc := yu7 h
     refine ⟨?_, by simp, ?_, fun h1 => ?_⟩
     · rw [List.all_cons, List.all_nil, Bool.and_true, zis, hc]; omega
     · rw [zk4, zlv, hc]; omega
     · show ((UInt8.ofNat (48 + u)).toNat : Int) ≠ 48
       rw [hc]; omega
   · obtain ⟨a1, a2, a3, a4⟩ := ih (u / 10) (by omega)
     have hc := yu7 (show u % 10 < 10 by omega)
     rw [Lib.decDigits, dif_neg h]
     refine ⟨?_, by simp, ?_, fun _ => ?_⟩
     · rw [List.all_append, a1, List.all_cons, List.all_nil, Bool.and_true, Bool.true_and, zis, hc]; omega
     · rw [zx3, a3, hc]; omega
     · have := a4 (by omega)
       have h0 : 0 < (Lib.decDigits (u / 10)).length := List.length_pos_iff.2 a2
       rw [zlc, List.getD_eq_getElem?_getD] at this |-
       rw [List.getElem?_append_left (by simpa using h0)]
       exact this
theorem zg3 {n : Int} (h : zm2 n) : zt0 (zdm n) = 0 /\ wnV (zdm n) = n := by
 obtain ⟨u, rfl⟩ := zjq h.1
 have hu : u < 18446744073709551616 := yb1 h.2
 obtain ⟨a1, a2, a3, a4⟩ := ylr u
 have ho : zu2 (zdm (u : Int)) = true := by
   rw [zdm, Int.toNat_natCast, zu2, a1]
   by_cases h0 : 1 <= u
   · simp [a2, a4 h0]
   · have : u = 0 := by omega
     subst this
     rw [Lib.decDigits_one (by decide)]; rfl
 have e : zt0 (zdm (u : Int)) = 0 := by
   rw [zt0, if_pos ho, zdm, Int.toNat_natCast, a3, if_pos hu]
 refine ⟨e, ?_⟩
 rw [wnV, if_pos e, zdm, Int.toNat_natCast, a3]
theorem ylq : ∀ (n : Nat) (s : List UInt8), s.length = n -> s.all isD = true -> s ≠ [] -> (zlc s 0 ≠ 48 \/ s = [48]) -> Lib.decDigits (znz 0 s) = s
 | 0, s, hl, _, h0, _ => absurd (List.eq_nil_of_length_eq_zero hl) h0
 | n + 1, s, hl, ha, h0, hz => by
   obtain ⟨t, c, rfl⟩ : ∃ t c, s = t ++ [c] := ⟨s.dropLast, s.getLast h0, (List.dropLast_concat_getLast h0).symm⟩
   rw [List.all_append, List.all_cons, List.all_nil, Bool.and_true, Bool.and_eq_true] at ha
   obtain ⟨ht, hc⟩ := ha
   rw [zis] at hc
   rw [zx3]
   have back : UInt8.ofNat (48 + (c.toNat - 48)) = c := by
     apply UInt8.toNat_inj.1
     rw [UInt8.toNat_ofNat']
     have := c.toNat_lt
     omega
   by_cases htn : t = []
   · subst htn
     rw [zlv, Nat.zero_mul, Nat.zero_add, Lib.decDigits_one (by omega), back]; rfl
   · have hlt : t.length = n := by simpa using hl
     obtain ⟨x, r, rfl⟩ := List.exists_cons_of_ne_nil htn
     have hx : zlc (x :: r) 0 ≠ 48 := by
       rcases hz with hz | hz
       · exact hz
       · have := congrArg List.length hz
         simp at this
     have h1 : 1 <= znz 0 (x :: r) := by
       rw [zk4]
       refine Nat.le_trans ?_ (zuy r _)
       rw [List.all_cons, Bool.and_eq_true, zis] at ht
       have : x.toNat ≠ 48 := fun e => hx (by show ((x.toNat : Nat) : Int) = 48; omega)
       omega
     have ih := ylq n (x :: r) hlt ht htn (.inl hx)
     generalize znz 0 (x :: r) = v at h1 ih |-
     rw [Lib.decDigits, dif_neg (by omega), show (v * 10 + (c.toNat - 48)) / 10 = v by omega, show (v * 10 + (c.toNat - 48)) % 10 = c.toNat - 48 by omega, ih, back]
theorem yx3 {s : List UInt8} (h : zu2 s = true) : s.all isD = true /\ s ≠ [] /\ (zlc s 0 ≠ 48 \/ s = [48]) := by
 simp only [zu2, Bool.and_eq_true, Bool.not_eq_true', Bool.or_eq_true, beq_iff_eq, beq_eq_false_iff_ne, ne_eq] at h
 exact ⟨h.1.1, h.1.2, h.2⟩
theorem zi9 {s : List UInt8} (h : zt0 s = 0) : zdm (wnV s) = s /\ zm2 (wnV s) := by
 have ho : zu2 s = true := by
   cases hq : zu2 s with
   | true => rfl
   | false => rw [zt0, hq, if_neg (by decide)] at h; exact absurd h (by decide)
 have hl : znz 0 s < 18446744073709551616 := by
   rw [zt0, if_pos ho] at h
   split at h
   · assumption
   · exact absurd h (by decide)
 obtain ⟨h1, h2, h3⟩ := yx3 ho
 rw [wnV, if_pos h, zdm, Int.toNat_natCast, ylq _ s rfl h1 h2 h3]
 exact ⟨rfl, by unfold zm2; omega⟩
theorem zn8 {n : Int} (h : zm2 n) : (zdm n).length <= 20 := by
 obtain ⟨u, rfl⟩ := zjq h.1
 have hu : u < 18446744073709551616 := yb1 h.2
 rw [zdm, Int.toNat_natCast, Lib.decDigits_length]
 by_cases h0 : u = 0
 · subst h0; rw [Lib.nDigits_small (by decide)]; decide
 · have := Lib.numDigits_eq u (by omega) hu
   split at this <;> omega
structure Pl where
 a : Int
 b : Int
 c : Int
 d : Int
 p : Int
 deriving DecidableEq
def plA (L : za9) (x : Pl) : AV := .agg [.int .u8 (L Pl.a x), .int .u8 (L Pl.b x), .int .u8 (L Pl.c x), .int .u8 (L Pl.d x), .int .u16 (L Pl.p x)]
def yr5 (L : za9) (a b c d p : Int) : Pl := L (L (L (L (L Pl.mk a) b) c) d) p
def zsz (x : Pl) : Prop := (0 <= x.a /\ x.a <= 255) /\ (0 <= x.b /\ x.b <= 255) /\ (0 <= x.c /\ x.c <= 255) /\ (0 <= x.d /\ x.d <= 255) /\ 0 <= x.p /\ x.p <= 65535
def ub (n : Int) : UInt8 := UInt8.ofNat n.toNat
def plB (x : Pl) : List UInt8 := [ub x.a, ub x.b, ub x.c, ub x.d, ub (x.p / 256), ub (x.p % 256)]
def plT (x : Pl) : List UInt8 := zdm x.a ++ 46 :: (zdm x.b ++ 46 :: (zdm x.c ++ 46 :: (zdm x.d ++ 58 :: zdm x.p)))
theorem yrm (n : Nat) : UInt8.ofNat n = UInt8.ofNat (n % 256) := by
 apply UInt8.toNat_inj.1
 rw [UInt8.toNat_ofNat', UInt8.toNat_ofNat']; omega
theorem ywr {p : Int} (h0 : 0 <= p) (h1 : p <= 65535) : yai p 2 = [ub (p / 256), ub (p % 256)] := by
 obtain ⟨n, rfl⟩ := zjq h0
 show zie n 2 = _
 rw [zie, zie, zie, Nat.pow_one, Nat.pow_zero, Nat.div_one, yrm n]
 show _ = [UInt8.ofNat ((n : Int) / 256).toNat, UInt8.ofNat ((n : Int) % 256).toNat]
 rw [show ((n : Int) / 256).toNat = n / 256 by omega, show ((n : Int) % 256).toNat = n % 256 by omega]
def zqp (L : za9) : zbn := (102, fun xs => match xs with
 | [.agg [.int .u8 a, .int .u8 b, .int .u8 c, .int .u8 d, .int .u16 p]] => some (L zsz (yr5 L a b c d p), .str (L plB (yr5 L a b c d p)))
 | _ => none)
theorem zoq : zay Tryz.prog (zqp std) := by
 intro xs p r h hp
 dsimp only [zqp] at h |-
 split at h <;> cases h
 try simp only [L2, L3, std] at hp |-
 rename_i a b c d p
 have hp : zsz ⟨a, b, c, d, p⟩ := hp
 refine za5 (T := tt) (S := fun L => zai [ycy L]) (lo := noA) (lb := noA) 5 (fn := Tryz.f102) rfl rfl (by kernel_rfl) (by kernel_rfl) rfl zaa (za1 ⟨zpi, trivial⟩) (by kernel_rfl) ?_
 (intro L P1 Q1 hL hP hQ; cbv; subst hL; simp only [L2, L3, std, syT]; subst hQ)
 (simp only [syS, reduceCtorEq, Int.reduceToNat, Int.reduceAdd, Int.reduceSub])
 obtain ⟨-, -, -, -, h1, h2⟩ := hp
 simp only at h1 h2
 have h2 : p <= 65535 := h2
 rw [show p % 18446744073709551616 = p by omega, ywr h1 h2]
 exact ⟨fun i _ => ⟨_, rfl⟩, ⟨by omega, by omega, by decide, by decide⟩, by simp [zc5], rfl⟩
def ipL (x : Pl) : List Int := [x.a, x.b, x.c, x.d]
def ipT (x : Pl) (j : Nat) : List UInt8 := zdm (zd3 (ipL x) j)
def le4s (i : Nat) : Prop := i <= 4
def to4 (i : Nat) : Nat := 4 - i
def txtA (L : za9) (x : Pl) : Nat -> St -> Option Ann := fun id st => match id with
 | 0 => some ⟨Nat, fun i => [(8, .int .i64 (L zbu i)), (3, .sl 900 1 0 i)], fun i => [(900, .row 9 1 i (fun j _ => .str (L2 L ipT x j)))], [1, 7], [1], fun i => L le4s i, fun i => L to4 i⟩
 | _ => none
theorem zz7 {x : Pl} (h : zsz x) (j : Nat) : zm2 (zd3 (ipL x) j) := by
 obtain ⟨h1, h2, h3, h4, -⟩ := h
 match j with
 | 0 => exact ⟨h1.1, by have := h1.2; show x.a < _; omega⟩
 | 1 => exact ⟨h2.1, by have := h2.2; show x.b < _; omega⟩
 | 2 => exact ⟨h3.1, by have := h3.2; show x.c < _; omega⟩
 | 3 => exact ⟨h4.1, by have := h4.2; show x.d < _; omega⟩
 | j + 4 => exact ⟨Int.le_refl 0, (by decide : (0 : Int) < 18446744073709551616)⟩
theorem yxi (x : Pl) : Lib.join [zdm x.a, zdm x.b, zdm x.c, zdm x.d] [46] = zdm x.a ++ 46 :: (zdm x.b ++ 46 :: (zdm x.c ++ 46 :: zdm x.d)) := by
 simp [Lib.join, List.intercalate]
def ztq (L : za9) : zbn := (125, fun xs => match xs with
 | [.agg [.int .u8 a, .int .u8 b, .int .u8 c, .int .u8 d, .int .u16 p]] => some (L zsz (yr5 L a b c d p), .str (L plT (yr5 L a b c d p)))
 | _ => none)
theorem zyi : zay Tryz.prog (ztq std) := by
 intro xs p r h hp
 dsimp only [ztq] at h |-
 split at h <;> cases h
 try simp only [L2, L3, std] at hp |-
 rename_i a b c d p
 have hp : zsz ⟨a, b, c, d, p⟩ := hp
 refine za5 (T := tt) (S := fun L => zai [ypo L, yxj L]) (lo := fun L => txtA L ⟨a, b, c, d, p⟩) (lb := noA) 5 (fn := Tryz.f125) rfl rfl (by kernel_rfl) (by kernel_rfl) rfl zaa (za1 ⟨yjz, yok, trivial⟩) (by kernel_rfl) ?_
 intro L P' Q' hL hP hQ
 (cbv; try simp only [syT, true_and, and_true])
 refine ⟨⟨0, ?_⟩, fun i hi => ?_⟩
 · (cbv; try simp only [syT, true_and, and_true])
   (subst hL; subst hQ; simp only [L2, L3, std] at *; try simp only [syS, reduceCtorEq, Int.reduceToNat, Int.reduceAdd, Int.reduceSub] at *)
   exact Nat.zero_le _
 · (cbv; try simp only [syT, true_and, and_true])
   have hi4 : i <= 4 := by
     have hi' := hi
     rw [hL] at hi'
     exact hi'
   refine ⟨fun h1 => ⟨?_, ?_, ?_, i + 1, ?_⟩, fun h1 => ⟨?_, ?_, ?_, ?_, ?_⟩⟩
   · (subst hL; subst hQ; simp only [L2, L3, std] at *; try simp only [syS, reduceCtorEq, Int.reduceToNat, Int.reduceAdd, Int.reduceSub] at *)
     omega
   · (subst hL; subst hQ; simp only [L2, L3, std] at *; try simp only [syS, reduceCtorEq, Int.reduceToNat, Int.reduceAdd, Int.reduceSub] at *)
     have := zz7 hp i
     show zm2 (_ % _)
     rw [show zd3 [a, b, c, d] i % 18446744073709551616 = zd3 (ipL ⟨a, b, c, d, p⟩) i from Int.emod_eq_of_lt this.1 this.2]
     exact this
   · (subst hL; subst hQ; simp only [L2, L3, std] at *; try simp only [syS, reduceCtorEq, Int.reduceToNat, Int.reduceAdd, Int.reduceSub] at *)
     omega
   · (cbv; try simp only [syT, true_and, and_true])
     (subst hL; subst hQ; simp only [L2, L3, std] at *; try simp only [syS, reduceCtorEq, Int.reduceToNat, Int.reduceAdd, Int.reduceSub] at *)
     refine ⟨fun k j hk hj => ?_, by omega, by show i + 1 <= 4; omega, by show 4 - (i + 1) + 1 <= 4 - i; omega⟩
     by_cases hk' : k < i
     · rw [zel hk', show k - i = 0 by omega]; rfl
     · have : k = i := by omega
       subst this
       rw [zf7 (by omega), show k - k = 0 by omega]
       match j, hj with
       | 0, _ =>
         have := zz7 hp k
         show AV.str (zdm (zd3 [a, b, c, d] k % 18446744073709551616)) = .str (zdm (zd3 (ipL ⟨a, b, c, d, p⟩) k))
         rw [show zd3 [a, b, c, d] k % 18446744073709551616 = zd3 (ipL ⟨a, b, c, d, p⟩) k from Int.emod_eq_of_lt this.1 this.2]
   all_goals
     (subst hL; subst hQ; simp only [L2, L3, std] at *; try simp only [syS, reduceCtorEq, Int.reduceToNat, Int.reduceAdd, Int.reduceSub] at *)
     have h4 : i = 4 := by omega
     subst h4
     have l1 := zn8 (zz7 hp 0)
     have l2 := zn8 (zz7 hp 1)
     have l3 := zn8 (zz7 hp 2)
     have l4 := zn8 (zz7 hp 3)
     have hp5 : 0 <= p /\ p <= 65535 := hp.2.2.2.2
     have l5 := zn8 (n := p) ⟨hp5.1, by omega⟩
     have hj : jnZ [46] (.lst 1 4 fun i x => AV.str (ipT ⟨a, b, c, d, p⟩ i)) = zdm a ++ 46 :: (zdm b ++ 46 :: (zdm c ++ 46 :: zdm d)) := yxi ⟨a, b, c, d, p⟩
     have hm : p % 18446744073709551616 = p := by omega
     simp only [zd3, ipL, List.getD_cons_zero, List.getD_cons_succ] at l1 l2 l3 l4
     have hl : (zdm a ++ 46 :: (zdm b ++ 46 :: (zdm c ++ 46 :: zdm d))).length <= 100 := by
       simp only [List.length_append, List.length_cons]; omega
   · refine ⟨fun k hk => ⟨_, rfl⟩, by omega, ?_⟩
     have : Lib.join (zev 4 fun i x => AV.str (ipT ⟨a, b, c, d, p⟩ i)) [46] = zdm a ++ 46 :: (zdm b ++ 46 :: (zdm c ++ 46 :: zdm d)) := hj
     rw [this]; omega
   · rw [hj, List.length_singleton]; omega
   · rw [hm]; exact ⟨hp5.1, by omega⟩
   · rw [hj, hm, List.length_append, List.length_singleton]; omega
   · rw [hj, hm]
     show _ = plT ⟨a, b, c, d, p⟩
     simp [plT]
theorem yl9 {x : Pl} {a b c d p : Int} (h : x = ⟨a, b, c, d, p⟩) : fits1 (plA std x) (.agg [.int .u8 a, .int .u8 b, .int .u8 c, .int .u8 d, .int .u16 p]) := by
 subst h
 show fits1 (.agg [.int .u8 a, .int .u8 b, .int .u8 c, .int .u8 d, .int .u16 p]) _
 simp only [zb7, zbi, and_self]
def zqa (s : List UInt8) : List (List UInt8) := zm4 (yk6 s [58]) [46]
def zts (s : List UInt8) : List UInt8 := yfd s [58]
def znq (s : List UInt8) (k : Nat) : Int := wnV (zu3 (zqa s) k)
def ygl (s : List UInt8) (k : Nat) : Int := zt0 (zu3 (zqa s) k)
def prtO (s : List UInt8) (k : Nat) : Prop := ygl s k = 0 /\ znq s k <= 255
def yva (s : List UInt8) : Prop := yua s [58] = true /\ (zqa s).length = 4 /\ (∀ k, k < 4 -> prtO s k) /\ zt0 (zts s) = 0 /\ 1 <= wnV (zts s) /\ wnV (zts s) <= 65535
open Classical in
noncomputable def spE (s : List UInt8) : Int := if yva s then 0 else 4
noncomputable def spP (s : List UInt8) : Pl := if spE s = 0 then ⟨znq s 0, znq s 1, znq s 2, znq s 3, wnV (zts s)⟩ else ⟨0, 0, 0, 0, 0⟩
theorem zr1 {c : UInt8} : ∀ {s : List UInt8} {x : List UInt8}, x ∈ zbc c s -> x.length <= s.length
 | [], x, h => by simp [zbc] at h; subst h; exact Nat.le_refl _
 | y :: s, x, h => by
   have ih := fun x h => zr1 (c := c) (s := s) (x := x) h
   unfold zbc at h
   split at h
   · rcases List.mem_cons.1 h with rfl | h
     · exact Nat.zero_le _
     · have := ih x h; simp; omega
   · split at h
     · rename_i z r hs
       rcases List.mem_cons.1 h with rfl | h
       · have := ih z (by rw [hs]; simp); simp; omega
       · have := ih x (by rw [hs]; simp [h]); simp; omega
     · rename_i hs; exact absurd hs (zr2 _ _)
theorem ynw (c : UInt8) (s : List UInt8) (k : Nat) : (zu3 (zbc c s) k).length <= s.length := by
 rw [zu3, List.getD_eq_getElem?_getD]
 cases h : (zbc c s)[k]? with
 | none => exact Nat.zero_le _
 | some x => exact zr1 (List.mem_of_getElem? h)
theorem ysu (s : List UInt8) : 0 <= wnV s := by
 unfold wnV
 split
 · exact Int.natCast_nonneg _
 · exact Int.le_refl _
theorem yk5 (s sep : List UInt8) : (yk6 s sep).length <= s.length := by
 unfold yk6
 split
 · exact Nat.le_refl _
 · rw [List.length_take]; omega
theorem yk4 (s sep : List UInt8) : (yfd s sep).length <= s.length := by
 unfold yfd
 split
 · exact Nat.zero_le _
 · rw [List.length_drop]; omega
theorem zm6 {s : List UInt8} (h : ¬ yva s) : fits1 (plA std (spP s)) (.agg [.int .u8 0, .int .u8 0, .int .u8 0, .int .u8 0, .int .u16 0]) /\ 4 = spE s := by
 have e : spE s = 4 := if_neg h
 exact ⟨yl9 (if_neg (by rw [e]; decide)), e.symm⟩
noncomputable def ynj (L : za9) : zbn := (123, fun xs => match xs with
 | [.str s] => some (L2 L upto 1000000 s, .tup [plA L (L spP s), .int .i64 (L spE s)])
 | _ => none)
def ipZ (s : List UInt8) (i k : Nat) : Int := if k < i then znq s k else 0
def ysn (s : List UInt8) (i : Nat) : Prop := i <= 4 /\ ∀ k, k < i -> prtO s k
def parA (L : za9) (s : List UInt8) : Nat -> St -> Option Ann := fun id st => match id with
 | 0 => some ⟨Nat, fun i => [(30, .int .i64 (L zbu i)), (2, .ref 2 0), (4, .ref 4 0)],
     fun i => [(2, .box 105 [.int .u8 0, .int .u8 0, .int .u8 0, .int .u8 0, .int .u16 0]), (4, .box 105 [.int .u8 (L (L2 L ipZ s i) 0), .int .u8 (L (L2 L ipZ s i) 1), .int .u8 (L (L2 L ipZ s i) 2), .int .u8 (L (L2 L ipZ s i) 3), .int .u16 0])], [8, 28, 29], [],
     fun i => L2 L ysn s i, fun i => L to4 i⟩
 | _ => none
theorem yi2 : zay Tryz.prog (ynj std) := by
 intro xs p r h hp
 dsimp only [ynj] at h |-
 split at h <;> cases h
 try simp only [L2, L3, std] at hp |-
 rename_i s
 have hp : s.length <= 1000000 := hp
 refine za5 (T := tt) (S := fun L => zai [yps L, ymg L, yau L]) (lo := fun L => parA L s) (lb := noA) 5 (fn := Tryz.f123) rfl rfl (by kernel_rfl) (by kernel_rfl) rfl zaa (za1 ⟨yk3, yh0, yav, trivial⟩) (by kernel_rfl) ?_
 intro L P' Q' hL hP hQ
 have hcl := yk5 s [58]
 have hbl := yk4 s [58]
 (cbv; try simp only [syT, true_and, and_true])
 refine ⟨?_, ?_, fun h => ?_, fun h1 => ⟨fun h => ?_, fun h2 => ⟨⟨0, ?_⟩, fun i hi => ?_⟩⟩⟩
 · (subst hL; subst hQ; simp only [L2, L3, std] at *; try simp only [syS, reduceCtorEq, Int.reduceToNat, Int.reduceAdd, Int.reduceSub] at *)
   exact ⟨rfl, by show s.length <= _; omega⟩
 · (subst hL; subst hQ; simp only [L2, L3, std] at *; try simp only [syS, reduceCtorEq, Int.reduceToNat, Int.reduceAdd, Int.reduceSub] at *)
   exact ⟨rfl, by show (yk6 s [58]).length <= _; omega⟩
 · (subst hL; subst hQ; simp only [L2, L3, std] at *; try simp only [syS, reduceCtorEq, Int.reduceToNat, Int.reduceAdd, Int.reduceSub] at *)
   exact zm6 fun x => by rw [x.1] at h; cases h
 · (subst hL; subst hQ; simp only [L2, L3, std] at *; try simp only [syS, reduceCtorEq, Int.reduceToNat, Int.reduceAdd, Int.reduceSub] at *)
   exact zm6 fun x => h (by have := x.2.1; show ((zqa s).length : Int) = 4; omega)
 · (cbv; try simp only [syT, true_and, and_true])
   (subst hL; subst hQ; simp only [L2, L3, std] at *; try simp only [syS, reduceCtorEq, Int.reduceToNat, Int.reduceAdd, Int.reduceSub] at *)
   exact ⟨rfl, rfl, rfl, rfl, Nat.zero_le _, fun k hk => by omega⟩
 · cbv at hi
   (cbv; try simp only [syT, true_and, and_true])
   have hpl : ∀ k, (zu3 (zqa s) k).length <= 1000000 := fun k => Nat.le_trans (ynw _ _ k) (by omega)
   refine ⟨fun h3 => ⟨?_, ?_, fun h4 => ?_, fun h4 => ⟨fun h5 => ?_, fun h5 => ⟨?_, i + 1, ?_⟩⟩⟩, fun h3 => ⟨?_, fun h4 => ⟨fun h5 => ⟨fun h6 => ?_, fun h6 => ?_⟩, fun h5 => ?_⟩, fun h4 => ?_⟩⟩
   · (subst hL; subst hQ; simp only [L2, L3, std] at *; try simp only [syS, reduceCtorEq, Int.reduceToNat, Int.reduceAdd, Int.reduceSub] at *)
     omega
   · (subst hL; subst hQ; simp only [L2, L3, std] at *; try simp only [syS, reduceCtorEq, Int.reduceToNat, Int.reduceAdd, Int.reduceSub] at *)
     exact hpl i
   · (subst hL; subst hQ; simp only [L2, L3, std] at *; try simp only [syS, reduceCtorEq, Int.reduceToNat, Int.reduceAdd, Int.reduceSub] at *)
     exact zm6 fun x => h4 (x.2.2.1 i (by omega)).1
   · (subst hL; subst hQ; simp only [L2, L3, std] at *; try simp only [syS, reduceCtorEq, Int.reduceToNat, Int.reduceAdd, Int.reduceSub] at *)
     have h5 : 255 < znq s i := h5
     exact zm6 fun x => by have := (x.2.2.1 i (by omega)).2; omega
   · (subst hL; subst hQ; simp only [L2, L3, std] at *; try simp only [syS, reduceCtorEq, Int.reduceToNat, Int.reduceAdd, Int.reduceSub] at *)
     omega
   · (cbv; try simp only [syT, true_and, and_true])
     (subst hL; subst hQ; simp only [L2, L3, std] at *; try simp only [syS, reduceCtorEq, Int.reduceToNat, Int.reduceAdd, Int.reduceSub] at *)
     have h4 : ygl s i = 0 := h4
     have h5 : znq s i <= 255 := h5
     have h0 : 0 <= znq s i := ysu _
     have hm : wnV (zu3 (zm4 (yk6 s [58]) [46]) i) % 256 = znq s i := by
       show znq s i % 256 = znq s i
       omega
     rw [hm]
     have cell : ∀ k, (cond (zan i k) (znq s i) (ipZ s i k)) = ipZ s (i + 1) k := by
       intro k
       by_cases hik : i = k
       · subst hik
         rw [za6, ipZ, ipZ, if_pos (show i < i + 1 by omega)]; rfl
       · rw [zao hik]
         show ipZ s i k = _
         rw [ipZ, ipZ]
         by_cases hlt : k < i
         · rw [if_pos hlt, if_pos (by omega)]
         · rw [if_neg hlt, if_neg (by omega)]
     have hi4 : i < 4 := by omega
     refine ⟨cell 3, cell 2, cell 1, cell 0, by omega, ⟨by omega, fun k hk => ?_⟩, by show 4 - (i + 1) + 1 <= 4 - i; omega⟩
     by_cases hki : k = i
     · rw [hki]; exact ⟨h4, h5⟩
     · exact hi.2 k (by omega)
   · (subst hL; subst hQ; simp only [L2, L3, std] at *; try simp only [syS, reduceCtorEq, Int.reduceToNat, Int.reduceAdd, Int.reduceSub] at *)
     show (yfd s [58]).length <= 1000000
     omega
   all_goals
     (subst hL; subst hQ; simp only [L2, L3, std] at *; try simp only [syS, reduceCtorEq, Int.reduceToNat, Int.reduceAdd, Int.reduceSub] at *)
     have hi4 : i = 4 := by have := hi.1; omega
     subst hi4
   · have hok : yva s := ⟨h1, by show yj7 (zqa s) = 4; have h2 : ((yj7 (zqa s) : Nat) : Int) = 4 := h2; omega, hi.2, h4, h5, h6⟩
     have hE : spE s = 0 := if_pos hok
     refine ⟨yl9 ?_, hE.symm⟩
     rw [spP, if_pos hE, show wnV (yfd s [58]) % 65536 = wnV (yfd s [58]) by omega]
     rfl
   · exact zm6 fun x => by have := x.2.2.2.2.2; have h6 : 65535 < wnV (zts s) := h6; omega
   · exact zm6 fun x => by have := x.2.2.2.2.1; have h5 : wnV (zts s) < 1 := h5; omega
   · exact zm6 fun x => h4 x.2.2.2.1
end Sy
end Go.Proofs.YtcgikjfloloekaaGreatDoor
namespace Go.Proofs.YtcgikjfloloekaaGreatDoor
namespace Sy
open Go Go.RowKit
set_option maxRecDepth 100000
set_option linter.unusedSimpArgs false
set_option linter.unusedVariables false
def zpg (L : za9) : zbn := (73, fun xs => match xs with
 | [.agg [.int .u8 a, .int .u8 b, .int .u8 c, .int .u8 d, .int .u16 p]] => some (L zsz (yr5 L a b c d p), .str (L plB (yr5 L a b c d p)))
 | _ => none)
theorem ztp : zay Tryz.prog (zpg std) := by
 intro xs p r h hp
 dsimp only [zpg] at h |-
 split at h <;> cases h
 try simp only [L2, L3, std] at hp |-
 rename_i a b c d p
 have hp : zsz ⟨a, b, c, d, p⟩ := hp
 refine za5 (T := tt) (S := noS) (lo := noA) (lb := noA) 5 (fn := Tryz.f73) rfl rfl (by kernel_rfl) (by kernel_rfl) rfl zaa (zcc _) (by kernel_rfl) ?_
 (intro L P1 Q1 hL hP hQ; cbv; subst hL; simp only [L2, L3, std, syT]; subst hQ)
 (simp only [syS, reduceCtorEq, Int.reduceToNat, Int.reduceAdd, Int.reduceSub])
 obtain ⟨-, -, -, -, h1, h2⟩ := hp
 simp only at h1 h2
 refine ⟨by omega, by omega, by omega, by omega, by decide, by decide, ⟨by omega, fun i _ => ⟨_, rfl⟩⟩, ?_⟩
 have e1 : yv5 .u16 p 256 % 256 = p / 256 := by
   have e : yv5 .u16 p 256 = IntKind.u16.wrap (p.tdiv 256) := rfl
   rw [e, yrk, Int.tdiv_eq_ediv_of_nonneg h1]; omega
 have e2 : p.tmod 256 % 256 = p % 256 := by rw [Int.tmod_eq_emod_of_nonneg h1]; omega
 rw [e1, e2]
 rfl
theorem zhv {c : UInt8} : ∀ {u : List UInt8} {v : List UInt8}, (∀ x ∈ u, x ≠ c) -> zbc c (u ++ c :: v) = u :: zbc c v
 | [], v, _ => by simp [zbc]
 | x :: u, v, h => by
   have ih := zhv (u := u) (v := v) (fun y hy => h y (by simp [hy]))
   rw [List.cons_append, zbc, if_neg (h x (by simp)), ih]
theorem zxm {c : UInt8} {u : List UInt8} (h : ∀ x ∈ u, x ≠ c) : zbc c u = [u] := zha fun k hk => h c (List.mem_of_getElem? hk) rfl
theorem ytl {s : List UInt8} {c : UInt8} {m : Nat} (h0 : ∀ k, k < m -> s[k]? ≠ some c) (h : s[m]? = some c) : Lib.indexByte s c = m := by
 by_cases hn : Lib.indexByte s c < 0
 · exact absurd h (yeh hn m)
 · obtain ⟨h1, h2, h3⟩ := zry hn
   rcases Nat.lt_trichotomy (Lib.indexByte s c).toNat m with hlt | heq | hgt
   · exact absurd h1 (h0 _ hlt)
   · omega
   · exact absurd h (h2 _ hgt)
theorem yov {u v : List UInt8} {c : UInt8} (h : ∀ x ∈ u, x ≠ c) : Lib.indexByte (u ++ c :: v) c = u.length := by
 refine ytl (fun k hk => ?_) (by simp)
 rw [List.getElem?_append_left hk]
 intro e
 exact h c (List.mem_of_getElem? e) rfl
theorem ypt {u v : List UInt8} (h : ∀ x ∈ u, x ≠ 58) : yk6 (u ++ 58 :: v) [58] = u /\ yfd (u ++ 58 :: v) [58] = v /\ yua (u ++ 58 :: v) [58] = true := by
 have e : zkr (u ++ 58 :: v) [58] = u.length := yov h
 rw [yk6, yfd, yua, e, if_neg (by omega), if_neg (by omega)]
 refine ⟨by simp, by simp, by simp⟩
theorem yti {u : List UInt8} (h : u.all isD = true) (c : UInt8) (hc : isD c = false) : ∀ x ∈ u, x ≠ c := by
 intro x hx e
 subst e
 rw [List.all_eq_true.1 h x hx] at hc
 cases hc
theorem zl8 {n : Int} (c : UInt8) (hc : isD c = false) : ∀ x ∈ zdm n, x ≠ c := yti (ylr n.toNat).1 c hc
def zs1 (x : Pl) : List UInt8 := zdm x.a ++ 46 :: (zdm x.b ++ 46 :: (zdm x.c ++ 46 :: zdm x.d))
theorem ymb (x : Pl) : plT x = zs1 x ++ 58 :: zdm x.p := by simp [plT, zs1]
theorem yp0 (x : Pl) : ∀ y ∈ zs1 x, y ≠ 58 := by
 have hd : isD 58 = false := by decide
 intro y hy
 simp only [zs1, List.mem_append, List.mem_cons] at hy
 rcases hy with h | rfl | h | rfl | h | rfl | h
 · exact zl8 58 hd y h
 · decide
 · exact zl8 58 hd y h
 · decide
 · exact zl8 58 hd y h
 · decide
 · exact zl8 58 hd y h
theorem zze (x : Pl) : zm4 (zs1 x) [46] = [zdm x.a, zdm x.b, zdm x.c, zdm x.d] := by
 have hd : isD 46 = false := by decide
 show zbc 46 (zs1 x) = _
 rw [zs1, zhv (zl8 46 hd), zhv (zl8 46 hd), zhv (zl8 46 hd), zxm (zl8 46 hd)]
theorem ygu {n : Int} (h : 0 <= n /\ n <= 255) : zm2 n := ⟨h.1, by omega⟩
theorem ymh {x : Pl} (h : zsz x) : (1 <= x.p -> spE (plT x) = 0 /\ spP (plT x) = x) /\ (x.p = 0 -> spE (plT x) = 4) := by
 obtain ⟨c1, c2, c3⟩ := ypt (u := zs1 x) (v := zdm x.p) (yp0 x)
 rw [<- ymb] at c1 c2 c3
 obtain ⟨ha, hb, hc, hd, hp⟩ := h
 have hh : zqa (plT x) = [zdm x.a, zdm x.b, zdm x.c, zdm x.d] := by rw [zqa, c1, zze]
 have na := zg3 (ygu ha)
 have nb := zg3 (ygu hb)
 have nc := zg3 (ygu hc)
 have nd := zg3 (ygu hd)
 have np := zg3 (n := x.p) ⟨hp.1, by omega⟩
 have hport : zts (plT x) = zdm x.p := c2
 have v0 : znq (plT x) 0 = x.a := by rw [znq, hh]; exact na.2
 have v1 : znq (plT x) 1 = x.b := by rw [znq, hh]; exact nb.2
 have v2 : znq (plT x) 2 = x.c := by rw [znq, hh]; exact nc.2
 have v3 : znq (plT x) 3 = x.d := by rw [znq, hh]; exact nd.2
 have e0 : ygl (plT x) 0 = 0 := by rw [ygl, hh]; exact na.1
 have e1 : ygl (plT x) 1 = 0 := by rw [ygl, hh]; exact nb.1
 have e2 : ygl (plT x) 2 = 0 := by rw [ygl, hh]; exact nc.1
 have e3 : ygl (plT x) 3 = 0 := by rw [ygl, hh]; exact nd.1
 refine ⟨fun h1 => ?_, fun h0 => if_neg fun hk => ?_⟩
 · have hok : yva (plT x) := by
     refine ⟨c3, by rw [hh]; rfl, fun k hk => ?_, by rw [hport]; exact np.1, by rw [hport, np.2]; exact h1, by rw [hport, np.2]; exact hp.2⟩
     match k, hk with
     | 0, _ => exact ⟨e0, by rw [v0]; exact ha.2⟩
     | 1, _ => exact ⟨e1, by rw [v1]; exact hb.2⟩
     | 2, _ => exact ⟨e2, by rw [v2]; exact hc.2⟩
     | 3, _ => exact ⟨e3, by rw [v3]; exact hd.2⟩
   have hE : spE (plT x) = 0 := if_pos hok
   refine ⟨hE, ?_⟩
   rw [spP, if_pos hE, v0, v1, v2, v3, hport, np.2]
 · have := hk.2.2.2.2.1
   rw [hport, np.2, h0] at this
   omega
def okG {α : Type} (V : Vw α) : AV -> Prop
 | .agg cs => cs.length = V.sz /\ V.ok (fun j => zby .dead cs j)
 | _ => False
def rdG {α : Type} (V : Vw α) : AV -> α
 | .agg cs => V.rd (fun j => zby .dead cs j)
 | _ => V.d
theorem ye5 (cs : List AV) (j : Nat) : zby .dead cs j = (cs[j]?).getD .dead := by
 induction cs generalizing j with
 | nil => cases j <;> rfl
 | cons x l ih => cases j with
   | zero => rfl
   | succ j => exact ih j
theorem gK {α : Type} {V : Vw α} (K : ya8 V) (x : α) (cs : List AV) (h : cs = (List.range V.sz).map (V.cell std x)) : okG V (.agg cs) /\ rdG V (.agg cs) = x := by
 have h1 : ∀ j, j < V.sz -> zby .dead cs j = V.cell std x j := fun j hj => by rw [ye5, h]; simp [hj]
 have h2 := K.back _ x h1
 exact ⟨⟨by simp [h], h2.1⟩, h2.2⟩
theorem G_R {α : Type} {V : Vw α} (K : ya8 V) {x : AV} (ho : okG V x) {h : Array Obj} {D : Nat -> Prop} {μ : Mu} {v : Value} (r : R h D μ x v) : R h D μ (.agg ((List.range V.sz).map (V.cell std (rdG V x)))) v := by
 match x, ho with
 | .agg cs, ho =>
   obtain ⟨us, rfl, o1, s1, hr⟩ := r.inv_agg
   refine .agg _ _ (by rw [<- s1]; simp [ho.1]) o1 fun i y w hy hw => ?_
   have hi : i < V.sz := by
     have := (List.getElem?_eq_some_iff.1 hy).1
     simpa using this
   simp [hi] at hy
   subst hy
   have hc : cs[i]? = some (zby .dead cs i) := by
     rw [ye5, List.getElem?_eq_getElem (by rw [ho.1]; exact hi)]; rfl
   exact K.turn _ ho.2 i hi _ _ _ _ (hr i _ w hc hw)
theorem zt2 {α : Type} {V : Vw α} (K : ya8 V) {P : Program} {f : FuncId} {x r : AV} {q : List AV} (ho : okG V x) (h : za7 P f (.agg ((List.range V.sz).map (V.cell std (rdG V x))) :: q) r) : za7 P f (x :: q) r :=
 zka (fun h D vs hr => yvm (fun v => G_R K ho) hr) h
structure Rt where
 h : List UInt8
 p : List UInt8
 c : List UInt8
 i : Int
 deriving DecidableEq
structure Ep where
 pl : Pl
 w : Int
 deriving DecidableEq
structure Ls where
 n : List UInt8
 pl : Pl
 rs : List Rt
 deriving DecidableEq
structure Cl where
 n : List UInt8
 es : List Ep
 deriving DecidableEq
structure Cf where
 v : Int
 ls : List Ls
 cs : List Cl
 deriving DecidableEq
def plC (L : za9) (x : Pl) : Nat -> AV
 | 0 => .int .u8 (L Pl.a x)
 | 1 => .int .u8 (L Pl.b x)
 | 2 => .int .u8 (L Pl.c x)
 | 3 => .int .u8 (L Pl.d x)
 | _ => .int .u16 (L Pl.p x)
def rdP (c : Nat -> AV) : Pl := ⟨(c 0).toI, (c 1).toI, (c 2).toI, (c 3).toI, (c 4).toI⟩
def yvo (c : Nat -> AV) : Prop := isI .u8 (c 0) /\ isI .u8 (c 1) /\ isI .u8 (c 2) /\ isI .u8 (c 3) /\ isI .u16 (c 4)
def rtC (L : za9) (x : Rt) : Nat -> AV
 | 0 => .str (L Rt.h x)
 | 1 => .str (L Rt.p x)
 | 2 => .str (L Rt.c x)
 | _ => .int .u64 (L Rt.i x)
def rtV : Vw Rt := ⟨4, rtC, fun c => ⟨ycu (c 0), ycu (c 1), ycu (c 2), (c 3).toI⟩, fun c => isS (c 0) /\ isS (c 1) /\ isS (c 2) /\ isI .u64 (c 3), ⟨[], [], [], 0⟩⟩
def zfc (l : List Rt) (i : Nat) : Rt := zps rtV l i
def yip (L : za9) (l : List Rt) : AV := .lst 4 (L zb1 l) (fun i => rtC L (L (L zfc l) i))
def yno (x : AV) : Prop := okW rtV x
def yn7 (x : AV) : List Rt := rdW rtV x
def yi9 (x : AV) : Prop := okG rtV x
def yhq (x : AV) : Rt := rdG rtV x
def epC (L : za9) (x : Ep) : Nat -> AV
 | 5 => .int .i64 (L Ep.w x)
 | j => plC L (L Ep.pl x) j
def epV : Vw Ep := ⟨6, epC, fun c => ⟨rdP c, (c 5).toI⟩, fun c => yvo c /\ isI .i64 (c 5), ⟨⟨0, 0, 0, 0, 0⟩, 0⟩⟩
def zex (l : List Ep) (i : Nat) : Ep := zps epV l i
def zua (L : za9) (l : List Ep) : AV := .lst 6 (L zb1 l) (fun i => epC L (L (L zex l) i))
def ztz (x : AV) : Prop := okW epV x
def zto (x : AV) : List Ep := rdW epV x
def zpo (x : AV) : Prop := okG epV x
def zpf (x : AV) : Ep := rdG epV x
def lsC (L : za9) (x : Ls) : Nat -> AV
 | 0 => .str (L Ls.n x)
 | 6 => yip L (L Ls.rs x)
 | j + 1 => plC L (L Ls.pl x) j
def lsV : Vw Ls := ⟨7, lsC, fun c => ⟨ycu (c 0), rdP (fun j => c (j + 1)), rdW rtV (c 6)⟩, fun c => isS (c 0) /\ yvo (fun j => c (j + 1)) /\ okW rtV (c 6), ⟨[], ⟨0, 0, 0, 0, 0⟩, []⟩⟩
def zak (l : List Ls) (i : Nat) : Ls := zps lsV l i
def zh5 (L : za9) (l : List Ls) : AV := .lst 7 (L zb1 l) (fun i => lsC L (L (L zak l) i))
def zty (x : AV) : Prop := okW lsV x
def ztn (x : AV) : List Ls := rdW lsV x
def zpn (x : AV) : Prop := okG lsV x
def zpe (x : AV) : Ls := rdG lsV x
def clC (L : za9) (x : Cl) : Nat -> AV
 | 0 => .str (L Cl.n x)
 | _ => zua L (L Cl.es x)
def clV : Vw Cl := ⟨2, clC, fun c => ⟨ycu (c 0), rdW epV (c 1)⟩, fun c => isS (c 0) /\ okW epV (c 1), ⟨[], []⟩⟩
def zam (l : List Cl) (i : Nat) : Cl := zps clV l i
def zg8 (L : za9) (l : List Cl) : AV := .lst 2 (L zb1 l) (fun i => clC L (L (L zam l) i))
def zmn (x : AV) : Prop := okW clV x
def zmi (x : AV) : List Cl := rdW clV x
def zjj (x : AV) : Prop := okG clV x
def zjc (x : AV) : Cl := rdG clV x
def cfC (L : za9) (x : Cf) : Nat -> AV
 | 0 => .int .u64 (L Cf.v x)
 | 1 => zh5 L (L Cf.ls x)
 | _ => zg8 L (L Cf.cs x)
def cfV : Vw Cf := ⟨3, cfC, fun c => ⟨(c 0).toI, rdW lsV (c 1), rdW clV (c 2)⟩, fun c => isI .u64 (c 0) /\ okW lsV (c 1) /\ okW clV (c 2), ⟨0, [], []⟩⟩
def zh2 (x : AV) : Prop := okG cfV x
def zbv (x : AV) : Cf := rdG cfV x
theorem zl0 : ya8 rtV := by
 refine ⟨fun c hc j hj h D μ v r => ?_, fun c x hx => ?_⟩
 · obtain ⟨h0, h1, h2, h3⟩ := hc
   match j, hj with
   | 0, _ => exact yea h0 r
   | 1, _ => exact yea h1 r
   | 2, _ => exact yea h2 r
   | 3, _ => exact zrx h3 r
 · have e0 := hx 0 (by decide)
   have e1 := hx 1 (by decide)
   have e2 := hx 2 (by decide)
   have e3 := hx 3 (by decide)
   refine ⟨⟨⟨_, e0⟩, ⟨_, e1⟩, ⟨_, e2⟩, ⟨_, e3⟩⟩, ?_⟩
   show Rt.mk (ycu (c 0)) (ycu (c 1)) (ycu (c 2)) (c 3).toI = x
   rw [e0, e1, e2, e3]; rfl
theorem zfr {c : Nat -> AV} (hc : yvo c) {j : Nat} (hj : j < 5) {h : Array Obj} {D : Nat -> Prop} {μ : Mu} {v : Value} (r : R h D μ (c j) v) : R h D μ (plC std (rdP c) j) v := by
 obtain ⟨h0, h1, h2, h3, h4⟩ := hc
 match j, hj with
 | 0, _ => exact zrx h0 r
 | 1, _ => exact zrx h1 r
 | 2, _ => exact zrx h2 r
 | 3, _ => exact zrx h3 r
 | 4, _ => exact zrx h4 r
theorem yd6 {c : Nat -> AV} {x : Pl} (hx : ∀ j, j < 5 -> c j = plC std x j) : yvo c /\ rdP c = x := by
 have e0 := hx 0 (by decide)
 have e1 := hx 1 (by decide)
 have e2 := hx 2 (by decide)
 have e3 := hx 3 (by decide)
 have e4 := hx 4 (by decide)
 refine ⟨⟨⟨_, e0⟩, ⟨_, e1⟩, ⟨_, e2⟩, ⟨_, e3⟩, ⟨_, e4⟩⟩, ?_⟩
 unfold rdP
 rw [e0, e1, e2, e3, e4]; rfl
theorem zgc : ya8 epV := by
 refine ⟨fun c hc j hj h D μ v r => ?_, fun c x hx => ?_⟩
 · obtain ⟨h0, h1⟩ := hc
   match j, hj with
   | 0, _ => exact zfr h0 (by omega) r
   | 1, _ => exact zfr h0 (by omega) r
   | 2, _ => exact zfr h0 (by omega) r
   | 3, _ => exact zfr h0 (by omega) r
   | 4, _ => exact zfr h0 (by omega) r
   | 5, _ => exact zrx h1 r
 · have e5 := hx 5 (by decide)
   have hp := yd6 (c := c) (x := x.pl) (fun j hj => by
     match j, hj with
     | 0, _ => exact hx 0 (by decide)
     | 1, _ => exact hx 1 (by decide)
     | 2, _ => exact hx 2 (by decide)
     | 3, _ => exact hx 3 (by decide)
     | 4, _ => exact hx 4 (by decide))
   refine ⟨⟨hp.1, ⟨_, e5⟩⟩, ?_⟩
   show Ep.mk (rdP c) (c 5).toI = x
   rw [hp.2, e5]; rfl
theorem zg9 : ya8 lsV := by
 refine ⟨fun c hc j hj h D μ v r => ?_, fun c x hx => ?_⟩
 · obtain ⟨h0, h1, h2⟩ := hc
   match j, hj with
   | 0, _ => exact yea h0 r
   | 1, _ => exact zfr (c := fun j => c (j + 1)) h1 (j := 0) (by omega) r
   | 2, _ => exact zfr (c := fun j => c (j + 1)) h1 (j := 1) (by omega) r
   | 3, _ => exact zfr (c := fun j => c (j + 1)) h1 (j := 2) (by omega) r
   | 4, _ => exact zfr (c := fun j => c (j + 1)) h1 (j := 3) (by omega) r
   | 5, _ => exact zfr (c := fun j => c (j + 1)) h1 (j := 4) (by omega) r
   | 6, _ => exact yde zl0 h2 r
 · have e0 := hx 0 (by decide)
   have e6 := hx 6 (by decide)
   have hp := yd6 (c := fun j => c (j + 1)) (x := x.pl) (fun j hj => by
     match j, hj with
     | 0, _ => exact hx 1 (by decide)
     | 1, _ => exact hx 2 (by decide)
     | 2, _ => exact hx 3 (by decide)
     | 3, _ => exact hx 4 (by decide)
     | 4, _ => exact hx 5 (by decide))
   have e6 : c 6 = ygp std rtV x.rs := e6
   obtain ⟨k1, k2⟩ := ze8 zl0 x.rs
   rw [<- e6] at k1 k2
   refine ⟨⟨⟨_, e0⟩, hp.1, k1⟩, ?_⟩
   show Ls.mk (ycu (c 0)) (rdP fun j => c (j + 1)) (rdW rtV (c 6)) = x
   rw [hp.2, k2, e0]; rfl
theorem zdp : ya8 clV := by
 refine ⟨fun c hc j hj h D μ v r => ?_, fun c x hx => ?_⟩
 · obtain ⟨h0, h1⟩ := hc
   match j, hj with
   | 0, _ => exact yea h0 r
   | 1, _ => exact yde zgc h1 r
 · have e0 := hx 0 (by decide)
   have e1 : c 1 = ygp std epV x.es := hx 1 (by decide)
   obtain ⟨k1, k2⟩ := ze8 zgc x.es
   rw [<- e1] at k1 k2
   refine ⟨⟨⟨_, e0⟩, k1⟩, ?_⟩
   show Cl.mk (ycu (c 0)) (rdW epV (c 1)) = x
   rw [k2, e0]; rfl
theorem ze4 : ya8 cfV := by
 refine ⟨fun c hc j hj h D μ v r => ?_, fun c x hx => ?_⟩
 · obtain ⟨h0, h1, h2⟩ := hc
   match j, hj with
   | 0, _ => exact zrx h0 r
   | 1, _ => exact yde zg9 h1 r
   | 2, _ => exact yde zdp h2 r
 · have e0 := hx 0 (by decide)
   have e1 : c 1 = ygp std lsV x.ls := hx 1 (by decide)
   have e2 : c 2 = ygp std clV x.cs := hx 2 (by decide)
   obtain ⟨k1, k2⟩ := ze8 zg9 x.ls
   obtain ⟨k3, k4⟩ := ze8 zdp x.cs
   rw [<- e1] at k1 k2
   rw [<- e2] at k3 k4
   refine ⟨⟨⟨_, e0⟩, k1, k3⟩, ?_⟩
   show Cf.mk (c 0).toI (rdW lsV (c 1)) (rdW clV (c 2)) = x
   rw [k2, k4, e0]; rfl
def zsw {α : Type} (f : Nat) (ok : AV -> Prop) (rd : AV -> α) (pre : α -> Prop) (val : α -> CV) (L : za9) : zbn := (f, fun xs => match xs with
 | [x] => some (L ok x /\ L pre (L rd x), cvA L (L val (L rd x)))
 | _ => none)
def zi8 {α : Type} (l : List α) : Prop := l.length <= 1000000
def yao {α : Type} (p : α -> Prop) (l : List α) : Prop := ∀ x ∈ l, p x
def zqj {α : Type} (val : α -> CV) (l : List α) : CV := zc3 (l.map val)
def zle {α : Type} (f g : Nat) (ok : AV -> Prop) (rd : AV -> List α) (pre : List α -> Prop) (val : List α -> CV) (L : za9) : zbn := (f, fun xs => match xs with
 | [x, .fn k [] []] => match zan k g with
   | true => some (L ok x /\ L zi8 (L rd x) /\ L pre (L rd x), cvA L (L val (L rd x)))
   | false => none
 | _ => none)
def yjw {α : Type} (L : za9) (nth : List α -> Nat -> α) (val : α -> CV) (l : List α) : Nat -> St -> Option Ann := fun id st => match id with
 | 0 => some ⟨Nat, fun i => [(10, .int .i64 (L zbu i)), (4, .ref 4 0), (5, .sl 900 4 0 i)], fun i => [(900, .row 89 4 i (fun q j => cv1 L (L val (L (L nth l) q)) j)), (4, .box 89 [.dead, .dead, .dead, .dead])], [0, 1, 8, 9], [],
     fun i => L2 L (fun (l : List α) i => i <= l.length) l i, fun i => L2 L (fun (l : List α) (i : Nat) => l.length - i) l i⟩
 | _ => none
theorem zjm {α : Type} {V : Vw α} (val : α -> CV) {l : List α} {i : Nat} (h : i < l.length) : zbj (l.map val) i = val (zps V l i) := by
 rw [zbq h, zbj, List.getD_eq_getElem?_getD, List.getElem?_eq_getElem (by simpa using h)]; simp
theorem zlu {α : Type} {V : Vw α} {val : α -> CV} {l : List α} {n : Nat} (h : n = l.length) :
   rdL (.lst 4 n fun q j => cv1 std (val (zps V l q)) j) = l.map val /\ okL (.lst 4 n fun q j => cv1 std (val (zps V l q)) j) :=
 zhy (by simpa using h) fun i j hi hj => by rw [zd6 _ _ hj, zjm (V := V) val (by omega)]
def zhb (x : Rt) : CV := zc3 [zgh x.h, zgh x.p, zgh x.c, zep x.i]
def zhn (x : Ep) : CV := zc3 [zgh (plB x.pl), zep (x.w % 18446744073709551616)]
def zy5 (x : Rt) : Prop := True
def zzj (x : Ep) : Prop := zsz x.pl
def zr9 (l : List Rt) : CV := zqj zhb l
def zs9 (l : List Ep) : CV := zqj zhn l
def ykz (l : List Rt) : Prop := yao zy5 l
def yf3 (l : List Ep) : Prop := yao zzj l
def zx8 : List CV -> List AV
 | [] => []
 | v :: l => .int .i64 v.kd :: .int .u64 v.nn :: .str v.tx :: .lst 4 (zcx v) (zer v) :: zx8 l
theorem zsi : ∀ (l : List CV) (i j : Nat), i < l.length -> j < 4 -> zby .dead (zx8 l) (i * 4 + j) = zf5 (zbj l i) j
 | [], i, j, hi, _ => by simp at hi
 | v :: l, 0, j, _, hj => by
   match j, hj with
   | 0, _ => exact (zgy v).symm
   | 1, _ => exact (zgx v).symm
   | 2, _ => exact (zgw v).symm
   | 3, _ => exact (zgv v).symm
 | v :: l, i + 1, j, hi, hj => by
   rw [show (i + 1) * 4 + j = i * 4 + j + 4 by omega]
   exact zsi l i j (by simpa using hi) hj
theorem zne (l : List CV) {n : Nat} {cs : List AV} (hn : n = l.length) (h : cs = zx8 l) : rdL (.lst 4 n fun i j => zby .dead cs (i * 4 + j)) = l /\ okL (.lst 4 n fun i j => zby .dead cs (i * 4 + j)) :=
 zhy hn fun i j hi hj => by rw [h]; exact zsi l i j (by omega) hj
theorem zse {v w : CV} (h : v = w) : zh6 (cvA std v) (.agg [.int .i64 w.kd, .int .u64 w.nn, .str w.tx, .lst 4 (zcx w) (zer w)]) := by
 subst h
 show zh6 (.agg [.int .i64 v.kd, .int .u64 v.nn, .str v.tx, .lst 4 (zcx v) (zer v)]) _
 simp [zhm, zb7, zbh, zdu, zbi]
theorem zkh (l : List CV) {v : CV} {n : Nat} {cs : List AV} (hv : v = zc3 l) (hn : n = l.length) (hl : l.length <= 4) (h : cs = zx8 l) :
   (okL (.lst 4 n fun i j => zby .dead cs (i * 4 + j)) /\ zru (rdL (.lst 4 n fun i j => zby .dead cs (i * 4 + j)))) /\
   ∀ {w : CV}, w = zc3 (rdL (.lst 4 n fun i j => zby .dead cs (i * 4 + j))) -> zh6 (cvA std v) (.agg [.int .i64 w.kd, .int .u64 w.nn, .str w.tx, .lst 4 (zcx w) (zer w)]) := by
 obtain ⟨k1, k2⟩ := zne l hn h
 refine ⟨⟨k2, ?_⟩, fun {w} hw => zse ?_⟩
 · rw [k1]
   show l.length <= 1000000
   omega
 · rw [hw, k1, hv]
theorem zy7 : zay Tryz.prog (zsw 104 yi9 yhq zy5 zhb std) := by
 intro xs p r h hp
 dsimp only [zsw] at h |-
 split at h <;> cases h
 try simp only [L2, L3, std] at hp |-
 rename_i x
 refine zt2 zl0 hp.1 ?_
 have hp := hp.2
 show za7 _ _ _ (cvA std (zhb (rdG rtV x)))
 have hp : zy5 (rdG rtV x) := hp
 generalize rdG rtV x = y at hp |-
 refine za8 (T := tt) (S := fun L => zai [zt5 L, zu1 L, zga L]) (lo := fun _ => noA std) (lb := noA) 5 (fn := Tryz.f104) (xs := fun L => [.agg [.str (L Rt.h y), .str (L Rt.p y), .str (L Rt.c y), .int .u64 (L Rt.i y)]]) rfl rfl (by kernel_rfl) (by kernel_rfl) rfl zaa (za1 ⟨zj1, zjl, zco, trivial⟩) (by kernel_rfl) ?_
 intro L P' Q' hL hP hQ
 (cbv; try simp only [syT, true_and, and_true])
 (subst hL; subst hQ; simp only [L2, L3, std] at *; try simp only [syS, reduceCtorEq, Int.reduceToNat, Int.reduceAdd, Int.reduceSub] at *)
 exact ⟨(zkh [zgh y.h, zgh y.p, zgh y.c, zep y.i] (v := zhb y) (n := 4) rfl rfl (Nat.le_of_ble_eq_true rfl) rfl).1, (zkh [zgh y.h, zgh y.p, zgh y.c, zep y.i] (v := zhb y) (n := 4) rfl rfl (Nat.le_of_ble_eq_true rfl) rfl).2 rfl⟩
theorem zqh : zay Tryz.prog (zsw 106 zpo zpf zzj zhn std) := by
 intro xs p r h hp
 dsimp only [zsw] at h |-
 split at h <;> cases h
 try simp only [L2, L3, std] at hp |-
 rename_i x
 refine zt2 zgc hp.1 ?_
 have hp := hp.2
 show za7 _ _ _ (cvA std (zhn (rdG epV x)))
 have hp : zzj (rdG epV x) := hp
 generalize rdG epV x = y at hp |-
 refine za8 (T := tt) (S := fun L => zai [zt5 L, zu1 L, zga L, zqp L]) (lo := fun _ => noA std) (lb := noA) 5 (fn := Tryz.f106) (xs := fun L => [.agg [.int .u8 (L Pl.a (L Ep.pl y)), .int .u8 (L Pl.b (L Ep.pl y)), .int .u8 (L Pl.c (L Ep.pl y)), .int .u8 (L Pl.d (L Ep.pl y)), .int .u16 (L Pl.p (L Ep.pl y)), .int .i64 (L Ep.w y)]]) rfl rfl (by kernel_rfl) (by kernel_rfl) rfl zaa (za1 ⟨zj1, zjl, zco, zoq, trivial⟩) (by kernel_rfl) ?_
 intro L P' Q' hL hP hQ
 (cbv; try simp only [syT, true_and, and_true])
 (subst hL; subst hQ; simp only [L2, L3, std] at *; try simp only [syS, reduceCtorEq, Int.reduceToNat, Int.reduceAdd, Int.reduceSub] at *)
 refine ⟨hp, (zkh [zgh (plB y.pl), zep (y.w % 18446744073709551616)] (v := zhn y) (n := 2) rfl rfl (Nat.le_of_ble_eq_true rfl) rfl).1, (zkh [zgh (plB y.pl), zep (y.w % 18446744073709551616)] (v := zhn y) (n := 2) rfl rfl (Nat.le_of_ble_eq_true rfl) rfl).2 rfl⟩
theorem zuu (ih : zay Tryz.prog (zsw 104 yi9 yhq zy5 zhb std)) : zay Tryz.prog (zle 103 104 yno yn7 ykz zr9 std) := by
 intro xs p r h hp
 unfold zle at h
 simp only at h
 split at h
 rotate_left
 · cases h
 rename_i x k
 cases hk : zan k 104 with
 | false => rw [hk] at h; cases h
 | true =>
 rw [hk] at h
 obtain rfl : k = 104 := of_decide_eq_true hk
 cases h
 obtain ⟨ho, hz, ha⟩ := hp
 refine zlh zl0 ho ?_
 have hz : zi8 (rdW rtV x) := hz
 have ha : yao zy5 (rdW rtV x) := ha
 show za7 _ _ _ (cvA std (zqj zhb (rdW rtV x)))
 generalize rdW rtV x = l at hz ha |-
 refine za8 (T := tt) (S := fun L => zai [zsw 104 yi9 yhq zy5 zhb L, zga L]) (lo := fun L => yjw L zfc zhb l) (lb := noA) 5 (fn := Tryz.f103) (xs := fun L => [yip L l, .fn 104 [] []]) rfl rfl (by kernel_rfl) (by kernel_rfl) rfl zaa
   (za1 ⟨ih, zco, trivial⟩) (by kernel_rfl) ?_
 intro L P' Q' hL hP hQ
 (cbv; try simp only [syT, true_and, and_true])
 refine ⟨⟨0, ?_⟩, fun i hi => ?_⟩
 · (cbv; try simp only [syT, true_and, and_true])
   (subst hL; subst hQ; simp only [L2, L3, std] at *; try simp only [syS, reduceCtorEq, Int.reduceToNat, Int.reduceAdd, Int.reduceSub] at *)
   exact Nat.zero_le _
 · cbv at hi
   have hG : ∀ y : Rt, L yhq (.agg [.str (L Rt.h y), .str (L Rt.p y), .str (L Rt.c y), .int .u64 (L Rt.i y)]) = y := by subst hL; exact fun y => (gK zl0 y _ rfl).2
   have hO : ∀ y : Rt, L yi9 (.agg [.str (L Rt.h y), .str (L Rt.p y), .str (L Rt.c y), .int .u64 (L Rt.i y)]) := by subst hL; exact fun y => (gK zl0 y _ rfl).1
   (cbv; try simp only [syT, true_and, and_true])
   simp only [hG, hO, true_and]
   refine ⟨fun hlt => ⟨?_, ?_, ?_, ⟨i + 1, ?_⟩⟩, fun hge => ?_⟩
   · (subst hL; subst hQ; simp only [L2, L3, std] at *; try simp only [syS, reduceCtorEq, Int.reduceToNat, Int.reduceAdd, Int.reduceSub] at *)
     omega
   · (subst hL; subst hQ; simp only [L2, L3, std] at *; try simp only [syS, reduceCtorEq, Int.reduceToNat, Int.reduceAdd, Int.reduceSub] at *)
     exact ha _ (by rw [zfc, zbq (V := rtV) (by have : zb1 l = l.length := rfl; omega)]; exact List.getElem_mem _)
   · (subst hL; subst hQ; simp only [L2, L3, std] at *; try simp only [syS, reduceCtorEq, Int.reduceToNat, Int.reduceAdd, Int.reduceSub] at *)
     have : zb1 l = l.length := rfl
     have : l.length <= 1000000 := hz
     omega
   · (cbv; try simp only [syT, true_and, and_true])
     try simp only [hG]
     (subst hL; subst hQ; simp only [L2, L3, std] at *; try simp only [syS, reduceCtorEq, Int.reduceToNat, Int.reduceAdd, Int.reduceSub] at *)
     have : zb1 l = l.length := rfl
     have : l.length <= 1000000 := hz
     exact ⟨fun q j hq hj => zn9 (fun q => zhb (zfc l q)) hq hj, by omega, by omega, by omega⟩
   · (subst hL; subst hQ; simp only [L2, L3, std] at *; try simp only [syS, reduceCtorEq, Int.reduceToNat, Int.reduceAdd, Int.reduceSub] at *)
     have : zb1 l = l.length := rfl
     obtain ⟨k1, k2⟩ := zlu (V := rtV) (val := zhb) (l := l) (n := i) (by omega)
     refine ⟨⟨k2, ?_⟩, zse ?_⟩
     · show List.length _ <= 1000000
       have k1 : rdL (.lst 4 i fun q j => cv1 std (zhb (zfc l q)) j) = l.map zhb := k1
       rw [k1, List.length_map]; exact hz
     · exact (congrArg zc3 k1).symm
theorem zuw (ih : zay Tryz.prog (zsw 106 zpo zpf zzj zhn std)) : zay Tryz.prog (zle 105 106 ztz zto yf3 zs9 std) := by
 intro xs p r h hp
 unfold zle at h
 simp only at h
 split at h
 rotate_left
 · cases h
 rename_i x k
 cases hk : zan k 106 with
 | false => rw [hk] at h; cases h
 | true =>
 rw [hk] at h
 obtain rfl : k = 106 := of_decide_eq_true hk
 cases h
 obtain ⟨ho, hz, ha⟩ := hp
 refine zlh zgc ho ?_
 have hz : zi8 (rdW epV x) := hz
 have ha : yao zzj (rdW epV x) := ha
 show za7 _ _ _ (cvA std (zqj zhn (rdW epV x)))
 generalize rdW epV x = l at hz ha |-
 refine za8 (T := tt) (S := fun L => zai [zsw 106 zpo zpf zzj zhn L, zga L]) (lo := fun L => yjw L zex zhn l) (lb := noA) 5 (fn := Tryz.f105) (xs := fun L => [zua L l, .fn 106 [] []]) rfl rfl (by kernel_rfl) (by kernel_rfl) rfl zaa
   (za1 ⟨ih, zco, trivial⟩) (by kernel_rfl) ?_
 intro L P' Q' hL hP hQ
 (cbv; try simp only [syT, true_and, and_true])
 refine ⟨⟨0, ?_⟩, fun i hi => ?_⟩
 · (cbv; try simp only [syT, true_and, and_true])
   (subst hL; subst hQ; simp only [L2, L3, std] at *; try simp only [syS, reduceCtorEq, Int.reduceToNat, Int.reduceAdd, Int.reduceSub] at *)
   exact Nat.zero_le _
 · cbv at hi
   have hG : ∀ y : Ep, L zpf (.agg [.int .u8 (L Pl.a (L Ep.pl y)), .int .u8 (L Pl.b (L Ep.pl y)), .int .u8 (L Pl.c (L Ep.pl y)), .int .u8 (L Pl.d (L Ep.pl y)), .int .u16 (L Pl.p (L Ep.pl y)), .int .i64 (L Ep.w y)]) = y := by subst hL; exact fun y => (gK zgc y _ rfl).2
   have hO : ∀ y : Ep, L zpo (.agg [.int .u8 (L Pl.a (L Ep.pl y)), .int .u8 (L Pl.b (L Ep.pl y)), .int .u8 (L Pl.c (L Ep.pl y)), .int .u8 (L Pl.d (L Ep.pl y)), .int .u16 (L Pl.p (L Ep.pl y)), .int .i64 (L Ep.w y)]) := by subst hL; exact fun y => (gK zgc y _ rfl).1
   (cbv; try simp only [syT, true_and, and_true])
   simp only [hG, hO, true_and]
   refine ⟨fun hlt => ⟨?_, ?_, ?_, ⟨i + 1, ?_⟩⟩, fun hge => ?_⟩
   · (subst hL; subst hQ; simp only [L2, L3, std] at *; try simp only [syS, reduceCtorEq, Int.reduceToNat, Int.reduceAdd, Int.reduceSub] at *)
     omega
   · (subst hL; subst hQ; simp only [L2, L3, std] at *; try simp only [syS, reduceCtorEq, Int.reduceToNat, Int.reduceAdd, Int.reduceSub] at *)
     exact ha _ (by rw [zex, zbq (V := epV) (by have : zb1 l = l.length := rfl; omega)]; exact List.getElem_mem _)
   · (subst hL; subst hQ; simp only [L2, L3, std] at *; try simp only [syS, reduceCtorEq, Int.reduceToNat, Int.reduceAdd, Int.reduceSub] at *)
     have : zb1 l = l.length := rfl
     have : l.length <= 1000000 := hz
     omega
   · (cbv; try simp only [syT, true_and, and_true])
     try simp only [hG]
     (subst hL; subst hQ; simp only [L2, L3, std] at *; try simp only [syS, reduceCtorEq, Int.reduceToNat, Int.reduceAdd, Int.reduceSub] at *)
     have : zb1 l = l.length := rfl
     have : l.length <= 1000000 := hz
     exact ⟨fun q j hq hj => zn9 (fun q => zhn (zex l q)) hq hj, by omega, by omega, by omega⟩
   · (subst hL; subst hQ; simp only [L2, L3, std] at *; try simp only [syS, reduceCtorEq, Int.reduceToNat, Int.reduceAdd, Int.reduceSub] at *)
     have : zb1 l = l.length := rfl
     obtain ⟨k1, k2⟩ := zlu (V := epV) (val := zhn) (l := l) (n := i) (by omega)
     refine ⟨⟨k2, ?_⟩, zse ?_⟩
     · show List.length _ <= 1000000
       have k1 : rdL (.lst 4 i fun q j => cv1 std (zhn (zex l q)) j) = l.map zhn := k1
       rw [k1, List.length_map]; exact hz
     · exact (congrArg zc3 k1).symm
def zig (x : Ls) : CV := zc3 [zgh x.n, zgh (plB x.pl), zr9 x.rs]
def zih (x : Cl) : CV := zc3 [zgh x.n, zs9 x.es]
def zz0 (x : Ls) : Prop := zsz x.pl /\ zi8 x.rs
def zzn (x : Cl) : Prop := zi8 x.es /\ yf3 x.es
def zwm (l : List Ls) : CV := zqj zig l
def zx6 (l : List Cl) : CV := zqj zih l
def ylh (l : List Ls) : Prop := yao zz0 l
def ylt (l : List Cl) : Prop := yao zzn l
theorem ywq (l : List Rt) : yn7 (.lst 4 (zb1 l) fun i => rtC std (zfc l i)) = l := (ze8 zl0 l).2
theorem yx0 (l : List Rt) : yno (.lst 4 (zb1 l) fun i => rtC std (zfc l i)) := (ze8 zl0 l).1
theorem yn5 (l : List Ep) : zto (.lst 6 (zb1 l) fun i => epC std (zex l i)) = l := (ze8 zgc l).2
theorem ynn (l : List Ep) : ztz (.lst 6 (zb1 l) fun i => epC std (zex l i)) := (ze8 zgc l).1
theorem yn4 (l : List Ls) : ztn (.lst 7 (zb1 l) fun i => lsC std (zak l i)) = l := (ze8 zg9 l).2
theorem ynm (l : List Ls) : zty (.lst 7 (zb1 l) fun i => lsC std (zak l i)) := (ze8 zg9 l).1
theorem ycs (l : List Cl) : zmi (.lst 2 (zb1 l) fun i => clC std (zam l i)) = l := (ze8 zdp l).2
theorem ydd (l : List Cl) : zmn (.lst 2 (zb1 l) fun i => clC std (zam l i)) := (ze8 zdp l).1
theorem zq3 : zay Tryz.prog (zsw 65 zpn zpe zz0 zig std) := by
 intro xs p r h hp
 dsimp only [zsw] at h |-
 split at h <;> cases h
 try simp only [L2, L3, std] at hp |-
 rename_i x
 refine zt2 zg9 hp.1 ?_
 have hp := hp.2
 show za7 _ _ _ (cvA std (zig (rdG lsV x)))
 have hp : zz0 (rdG lsV x) := hp
 generalize rdG lsV x = y at hp |-
 refine za8 (T := tt) (S := fun L => zai [zt5 L, zga L, zqp L, zle 103 104 yno yn7 ykz zr9 L]) (lo := fun _ => noA std) (lb := noA) 5 (fn := Tryz.f65) (xs := fun L => [.agg [.str (L Ls.n y), .int .u8 (L Pl.a (L Ls.pl y)), .int .u8 (L Pl.b (L Ls.pl y)), .int .u8 (L Pl.c (L Ls.pl y)), .int .u8 (L Pl.d (L Ls.pl y)), .int .u16 (L Pl.p (L Ls.pl y)), yip L (L Ls.rs y)]]) rfl rfl (by kernel_rfl) (by kernel_rfl) rfl zaa (za1 ⟨zj1, zco, zoq, zuu zy7, trivial⟩) (by kernel_rfl) ?_
 intro L P' Q' hL hP hQ
 (cbv; try simp only [syT, true_and, and_true])
 (subst hL; subst hQ; simp only [L2, L3, std] at *; try simp only [syS, reduceCtorEq, Int.reduceToNat, Int.reduceAdd, Int.reduceSub] at *)
 simp only [ywq]
 obtain ⟨k1, k2⟩ := zkh [zgh y.n, zgh (plB y.pl), zr9 y.rs] (v := zig y) (n := 3) rfl rfl (Nat.le_of_ble_eq_true rfl) rfl
 exact ⟨hp.1, ⟨yx0 _, hp.2, fun _ _ => trivial⟩, k1, k2 rfl⟩
theorem zsg : zay Tryz.prog (zsw 67 zjj zjc zzn zih std) := by
 intro xs p r h hp
 dsimp only [zsw] at h |-
 split at h <;> cases h
 try simp only [L2, L3, std] at hp |-
 rename_i x
 refine zt2 zdp hp.1 ?_
 have hp := hp.2
 show za7 _ _ _ (cvA std (zih (rdG clV x)))
 have hp : zzn (rdG clV x) := hp
 generalize rdG clV x = y at hp |-
 refine za8 (T := tt) (S := fun L => zai [zt5 L, zga L, zle 105 106 ztz zto yf3 zs9 L]) (lo := fun _ => noA std) (lb := noA) 5 (fn := Tryz.f67) (xs := fun L => [.agg [.str (L Cl.n y), zua L (L Cl.es y)]]) rfl rfl (by kernel_rfl) (by kernel_rfl) rfl zaa (za1 ⟨zj1, zco, zuw zqh, trivial⟩) (by kernel_rfl) ?_
 intro L P' Q' hL hP hQ
 (cbv; try simp only [syT, true_and, and_true])
 (subst hL; subst hQ; simp only [L2, L3, std] at *; try simp only [syS, reduceCtorEq, Int.reduceToNat, Int.reduceAdd, Int.reduceSub] at *)
 simp only [yn5]
 obtain ⟨k1, k2⟩ := zkh [zgh y.n, zs9 y.es] (v := zih y) (n := 2) rfl rfl (Nat.le_of_ble_eq_true rfl) rfl
 exact ⟨⟨ynn _, hp.1, hp.2⟩, k1, k2 rfl⟩
theorem zuv (ih : zay Tryz.prog (zsw 65 zpn zpe zz0 zig std)) : zay Tryz.prog (zle 64 65 zty ztn ylh zwm std) := by
 intro xs p r h hp
 unfold zle at h
 simp only at h
 split at h
 rotate_left
 · cases h
 rename_i x k
 cases hk : zan k 65 with
 | false => rw [hk] at h; cases h
 | true =>
 rw [hk] at h
 obtain rfl : k = 65 := of_decide_eq_true hk
 cases h
 obtain ⟨ho, hz, ha⟩ := hp
 refine zlh zg9 ho ?_
 have hz : zi8 (rdW lsV x) := hz
 have ha : yao zz0 (rdW lsV x) := ha
 show za7 _ _ _ (cvA std (zqj zig (rdW lsV x)))
 generalize rdW lsV x = l at hz ha |-
 refine za8 (T := tt) (S := fun L => zai [zsw 65 zpn zpe zz0 zig L, zga L]) (lo := fun L => yjw L zak zig l) (lb := noA) 5 (fn := Tryz.f64) (xs := fun L => [zh5 L l, .fn 65 [] []]) rfl rfl (by kernel_rfl) (by kernel_rfl) rfl zaa
   (za1 ⟨ih, zco, trivial⟩) (by kernel_rfl) ?_
 intro L P' Q' hL hP hQ
 (cbv; try simp only [syT, true_and, and_true])
 refine ⟨⟨0, ?_⟩, fun i hi => ?_⟩
 · (cbv; try simp only [syT, true_and, and_true])
   (subst hL; subst hQ; simp only [L2, L3, std] at *; try simp only [syS, reduceCtorEq, Int.reduceToNat, Int.reduceAdd, Int.reduceSub] at *)
   exact Nat.zero_le _
 · cbv at hi
   have hG : ∀ y : Ls, L zpe (.agg [.str (L Ls.n y), .int .u8 (L Pl.a (L Ls.pl y)), .int .u8 (L Pl.b (L Ls.pl y)), .int .u8 (L Pl.c (L Ls.pl y)), .int .u8 (L Pl.d (L Ls.pl y)), .int .u16 (L Pl.p (L Ls.pl y)), .lst 4 (L zb1 (L Ls.rs y)) (fun i => rtC L (L (L zfc (L Ls.rs y)) i))]) = y := by subst hL; exact fun y => (gK zg9 y _ rfl).2
   have hO : ∀ y : Ls, L zpn (.agg [.str (L Ls.n y), .int .u8 (L Pl.a (L Ls.pl y)), .int .u8 (L Pl.b (L Ls.pl y)), .int .u8 (L Pl.c (L Ls.pl y)), .int .u8 (L Pl.d (L Ls.pl y)), .int .u16 (L Pl.p (L Ls.pl y)), .lst 4 (L zb1 (L Ls.rs y)) (fun i => rtC L (L (L zfc (L Ls.rs y)) i))]) := by subst hL; exact fun y => (gK zg9 y _ rfl).1
   (cbv; try simp only [syT, true_and, and_true])
   simp only [hG, hO, true_and]
   refine ⟨fun hlt => ⟨?_, ?_, ?_, ⟨i + 1, ?_⟩⟩, fun hge => ?_⟩
   · (subst hL; subst hQ; simp only [L2, L3, std] at *; try simp only [syS, reduceCtorEq, Int.reduceToNat, Int.reduceAdd, Int.reduceSub] at *)
     omega
   · (subst hL; subst hQ; simp only [L2, L3, std] at *; try simp only [syS, reduceCtorEq, Int.reduceToNat, Int.reduceAdd, Int.reduceSub] at *)
     exact ha _ (by rw [zak, zbq (V := lsV) (by have : zb1 l = l.length := rfl; omega)]; exact List.getElem_mem _)
   · (subst hL; subst hQ; simp only [L2, L3, std] at *; try simp only [syS, reduceCtorEq, Int.reduceToNat, Int.reduceAdd, Int.reduceSub] at *)
     have : zb1 l = l.length := rfl
     have : l.length <= 1000000 := hz
     omega
   · (cbv; try simp only [syT, true_and, and_true])
     try simp only [hG]
     (subst hL; subst hQ; simp only [L2, L3, std] at *; try simp only [syS, reduceCtorEq, Int.reduceToNat, Int.reduceAdd, Int.reduceSub] at *)
     have : zb1 l = l.length := rfl
     have : l.length <= 1000000 := hz
     exact ⟨fun q j hq hj => zn9 (fun q => zig (zak l q)) hq hj, by omega, by omega, by omega⟩
   · (subst hL; subst hQ; simp only [L2, L3, std] at *; try simp only [syS, reduceCtorEq, Int.reduceToNat, Int.reduceAdd, Int.reduceSub] at *)
     have : zb1 l = l.length := rfl
     obtain ⟨k1, k2⟩ := zlu (V := lsV) (val := zig) (l := l) (n := i) (by omega)
     refine ⟨⟨k2, ?_⟩, zse ?_⟩
     · show List.length _ <= 1000000
       have k1 : rdL (.lst 4 i fun q j => cv1 std (zig (zak l q)) j) = l.map zig := k1
       rw [k1, List.length_map]; exact hz
     · exact (congrArg zc3 k1).symm
theorem zux (ih : zay Tryz.prog (zsw 67 zjj zjc zzn zih std)) : zay Tryz.prog (zle 66 67 zmn zmi ylt zx6 std) := by
 intro xs p r h hp
 unfold zle at h
 simp only at h
 split at h
 rotate_left
 · cases h
 rename_i x k
 cases hk : zan k 67 with
 | false => rw [hk] at h; cases h
 | true =>
 rw [hk] at h
 obtain rfl : k = 67 := of_decide_eq_true hk
 cases h
 obtain ⟨ho, hz, ha⟩ := hp
 refine zlh zdp ho ?_
 have hz : zi8 (rdW clV x) := hz
 have ha : yao zzn (rdW clV x) := ha
 show za7 _ _ _ (cvA std (zqj zih (rdW clV x)))
 generalize rdW clV x = l at hz ha |-
 refine za8 (T := tt) (S := fun L => zai [zsw 67 zjj zjc zzn zih L, zga L]) (lo := fun L => yjw L zam zih l) (lb := noA) 5 (fn := Tryz.f66) (xs := fun L => [zg8 L l, .fn 67 [] []]) rfl rfl (by kernel_rfl) (by kernel_rfl) rfl zaa
   (za1 ⟨ih, zco, trivial⟩) (by kernel_rfl) ?_
 intro L P' Q' hL hP hQ
 (cbv; try simp only [syT, true_and, and_true])
 refine ⟨⟨0, ?_⟩, fun i hi => ?_⟩
 · (cbv; try simp only [syT, true_and, and_true])
   (subst hL; subst hQ; simp only [L2, L3, std] at *; try simp only [syS, reduceCtorEq, Int.reduceToNat, Int.reduceAdd, Int.reduceSub] at *)
   exact Nat.zero_le _
 · cbv at hi
   have hG : ∀ y : Cl, L zjc (.agg [.str (L Cl.n y), .lst 6 (L zb1 (L Cl.es y)) (fun i => epC L (L (L zex (L Cl.es y)) i))]) = y := by subst hL; exact fun y => (gK zdp y _ rfl).2
   have hO : ∀ y : Cl, L zjj (.agg [.str (L Cl.n y), .lst 6 (L zb1 (L Cl.es y)) (fun i => epC L (L (L zex (L Cl.es y)) i))]) := by subst hL; exact fun y => (gK zdp y _ rfl).1
   (cbv; try simp only [syT, true_and, and_true])
   simp only [hG, hO, true_and]
   refine ⟨fun hlt => ⟨?_, ?_, ?_, ⟨i + 1, ?_⟩⟩, fun hge => ?_⟩
   · (subst hL; subst hQ; simp only [L2, L3, std] at *; try simp only [syS, reduceCtorEq, Int.reduceToNat, Int.reduceAdd, Int.reduceSub] at *)
     omega
   · (subst hL; subst hQ; simp only [L2, L3, std] at *; try simp only [syS, reduceCtorEq, Int.reduceToNat, Int.reduceAdd, Int.reduceSub] at *)
     exact ha _ (by rw [zam, zbq (V := clV) (by have : zb1 l = l.length := rfl; omega)]; exact List.getElem_mem _)
   · (subst hL; subst hQ; simp only [L2, L3, std] at *; try simp only [syS, reduceCtorEq, Int.reduceToNat, Int.reduceAdd, Int.reduceSub] at *)
     have : zb1 l = l.length := rfl
     have : l.length <= 1000000 := hz
     omega
   · (cbv; try simp only [syT, true_and, and_true])
     try simp only [hG]
     (subst hL; subst hQ; simp only [L2, L3, std] at *; try simp only [syS, reduceCtorEq, Int.reduceToNat, Int.reduceAdd, Int.reduceSub] at *)
     have : zb1 l = l.length := rfl
     have : l.length <= 1000000 := hz
     exact ⟨fun q j hq hj => zn9 (fun q => zih (zam l q)) hq hj, by omega, by omega, by omega⟩
   · (subst hL; subst hQ; simp only [L2, L3, std] at *; try simp only [syS, reduceCtorEq, Int.reduceToNat, Int.reduceAdd, Int.reduceSub] at *)
     have : zb1 l = l.length := rfl
     obtain ⟨k1, k2⟩ := zlu (V := clV) (val := zih) (l := l) (n := i) (by omega)
     refine ⟨⟨k2, ?_⟩, zse ?_⟩
     · show List.length _ <= 1000000
       have k1 : rdL (.lst 4 i fun q j => cv1 std (zih (zam l q)) j) = l.map zih := k1
       rw [k1, List.length_map]; exact hz
     · exact (congrArg zc3 k1).symm
def prS {α : Type} (f : Nat) (ok : AV -> Prop) (rd : AV -> α) (p : α -> Bool) (pre : α -> Prop) (L : za9) : zbn := (f, fun xs => match xs with
 | [x] => some (L ok x /\ L pre (L rd x), .bool (L p (L rd x)))
 | _ => none)
def yak {α : Type} (f g : Nat) (ok : AV -> Prop) (rd : AV -> List α) (idx : List α -> Int) (pre : List α -> Prop) (L : za9) : zbn := (f, fun xs => match xs with
 | [x, .fn k [] []] => match zan k g with
   | true => some (L ok x /\ L zi8 (L rd x) /\ L pre (L rd x), .int .i64 (L idx (L rd x)))
   | false => none
 | _ => none)
def yan {α : Type} (f g : Nat) (ok : AV -> Prop) (rd : AV -> List α) (any : List α -> Bool) (pre : List α -> Prop) (L : za9) : zbn := (f, fun xs => match xs with
 | [x, .fn k [] []] => match zan k g with
   | true => some (L ok x /\ L zi8 (L rd x) /\ L pre (L rd x), .bool (L any (L rd x)))
   | false => none
 | _ => none)
def ixA {α : Type} (L : za9) (none : List α -> Nat -> Prop) (l : List α) : Nat -> St -> Option Ann := fun id st => match id with
 | 0 => some ⟨Nat, fun i => [(8, .int .i64 (L zbu i))], fun i => [], [0, 1, 6, 7], [],
     fun i => L2 L none l i, fun i => L2 L (fun (l : List α) (i : Nat) => l.length - i) l i⟩
 | _ => Option.none
theorem zwt (a b : Int) : ile a b = decide (a <= b) := by simp [ile]
def zg6 (x : Ls) : Bool := decide (8 < x.rs.length)
def zh4 (x : Cl) : Bool := decide (8 < x.es.length)
def zqw (x : Ep) : Bool := decide (x.w < 0)
def zqr (x : Cl) : Bool := x.es.any zqw
def zyj (x : Ls) : Prop := True
def zyk (x : Cl) : Prop := True
def zym (x : Ep) : Prop := True
def ztr (x : Cl) : Prop := zi8 x.es
theorem yoa : zay Tryz.prog (prS 96 zpn zpe zg6 zyj std) := by
 intro xs p r h hp
 dsimp only [prS] at h |-
 split at h <;> cases h
 try simp only [L2, L3, std] at hp |-
 rename_i x
 refine zt2 zg9 hp.1 ?_
 have hp := hp.2
 show za7 _ _ _ (.bool (zg6 (rdG lsV x)))
 have hp : zyj (rdG lsV x) := hp
 generalize rdG lsV x = y at hp |-
 refine za8 (T := tt) (S := noS) (lo := fun _ => noA std) (lb := noA) 5 (fn := Tryz.f96) (xs := fun L => [.agg [.str (L Ls.n y), .int .u8 (L Pl.a (L Ls.pl y)), .int .u8 (L Pl.b (L Ls.pl y)), .int .u8 (L Pl.c (L Ls.pl y)), .int .u8 (L Pl.d (L Ls.pl y)), .int .u16 (L Pl.p (L Ls.pl y)), yip L (L Ls.rs y)]]) rfl rfl (by kernel_rfl) (by kernel_rfl) rfl zaa (zcc _) (by kernel_rfl) ?_
 intro L P' Q' hL hP hQ
 (cbv; try simp only [syT, true_and, and_true])
 (subst hL; subst hQ; simp only [L2, L3, std] at *; try simp only [syS, reduceCtorEq, Int.reduceToNat, Int.reduceAdd, Int.reduceSub] at *)
 show ilt 8 ((y.rs.length : Nat) : Int) = _
 simp only [ilt, zg6]
 congr 1
 simp
 omega
theorem yob : zay Tryz.prog (prS 98 zjj zjc zh4 zyk std) := by
 intro xs p r h hp
 dsimp only [prS] at h |-
 split at h <;> cases h
 try simp only [L2, L3, std] at hp |-
 rename_i x
 refine zt2 zdp hp.1 ?_
 have hp := hp.2
 show za7 _ _ _ (.bool (zh4 (rdG clV x)))
 have hp : zyk (rdG clV x) := hp
 generalize rdG clV x = y at hp |-
 refine za8 (T := tt) (S := noS) (lo := fun _ => noA std) (lb := noA) 5 (fn := Tryz.f98) (xs := fun L => [.agg [.str (L Cl.n y), zua L (L Cl.es y)]]) rfl rfl (by kernel_rfl) (by kernel_rfl) rfl zaa (zcc _) (by kernel_rfl) ?_
 intro L P' Q' hL hP hQ
 (cbv; try simp only [syT, true_and, and_true])
 (subst hL; subst hQ; simp only [L2, L3, std] at *; try simp only [syS, reduceCtorEq, Int.reduceToNat, Int.reduceAdd, Int.reduceSub] at *)
 show ilt 8 ((y.es.length : Nat) : Int) = _
 simp only [ilt, zh4]
 congr 1
 simp
 omega
theorem yql : zay Tryz.prog (prS 101 zpo zpf zqw zym std) := by
 intro xs p r h hp
 dsimp only [prS] at h |-
 split at h <;> cases h
 try simp only [L2, L3, std] at hp |-
 rename_i x
 refine zt2 zgc hp.1 ?_
 have hp := hp.2
 show za7 _ _ _ (.bool (zqw (rdG epV x)))
 have hp : zym (rdG epV x) := hp
 generalize rdG epV x = y at hp |-
 refine za8 (T := tt) (S := noS) (lo := fun _ => noA std) (lb := noA) 5 (fn := Tryz.f101) (xs := fun L => [.agg [.int .u8 (L Pl.a (L Ep.pl y)), .int .u8 (L Pl.b (L Ep.pl y)), .int .u8 (L Pl.c (L Ep.pl y)), .int .u8 (L Pl.d (L Ep.pl y)), .int .u16 (L Pl.p (L Ep.pl y)), .int .i64 (L Ep.w y)]]) rfl rfl (by kernel_rfl) (by kernel_rfl) rfl zaa (zcc _) (by kernel_rfl) ?_
 intro L P' Q' hL hP hQ
 (cbv; try simp only [syT, true_and, and_true])
 (subst hL; subst hQ; simp only [L2, L3, std] at *; try simp only [syS, reduceCtorEq, Int.reduceToNat, Int.reduceAdd, Int.reduceSub] at *)
 simp [ilt, zqw]
def ytn (l : List Ls) : Int := zol zg6 l
def yke (l : List Ls) : Bool := l.any zg6
def ysx (l : List Ls) (i : Nat) : Prop := zpu zg6 l i
def zo9 (l : List Ls) : Prop := yao zyj l
theorem zz8 (ih : zay Tryz.prog (prS 96 zpn zpe zg6 zyj std)) : zay Tryz.prog (yak 120 96 zty ztn ytn zo9 std) := by
 intro xs p r h hp
 unfold yak at h
 simp only at h
 split at h
 rotate_left
 · cases h
 rename_i x k
 cases hk : zan k 96 with
 | false => rw [hk] at h; cases h
 | true =>
 rw [hk] at h
 obtain rfl : k = 96 := of_decide_eq_true hk
 cases h
 obtain ⟨ho, hz, ha⟩ := hp
 refine zlh zg9 ho ?_
 have hz : zi8 (rdW lsV x) := hz
 have ha : zo9 (rdW lsV x) := ha
 show za7 _ _ _ (.int .i64 (zol zg6 (rdW lsV x)))
 generalize rdW lsV x = l at hz ha |-
 refine za8 (T := tt) (S := fun L => zai [prS 96 zpn zpe zg6 zyj L]) (lo := fun L => ixA L ysx l) (lb := noA) 5 (fn := Tryz.f120) (xs := fun L => [zh5 L l, .fn 96 [] []]) rfl rfl (by kernel_rfl) (by kernel_rfl) rfl zaa
   (za1 ⟨ih, trivial⟩) (by kernel_rfl) ?_
 intro L P' Q' hL hP hQ
 (cbv; try simp only [syT, true_and, and_true])
 refine ⟨⟨0, ?_⟩, fun i hi => ?_⟩
 · (cbv; try simp only [syT, true_and, and_true])
   (subst hL; subst hQ; simp only [L2, L3, std] at *; try simp only [syS, reduceCtorEq, Int.reduceToNat, Int.reduceAdd, Int.reduceSub] at *)
   exact zpt _ _
 · cbv at hi
   have hG : ∀ y : Ls, L zpe (.agg [.str (L Ls.n y), .int .u8 (L Pl.a (L Ls.pl y)), .int .u8 (L Pl.b (L Ls.pl y)), .int .u8 (L Pl.c (L Ls.pl y)), .int .u8 (L Pl.d (L Ls.pl y)), .int .u16 (L Pl.p (L Ls.pl y)), .lst 4 (L zb1 (L Ls.rs y)) (fun i => rtC L (L (L zfc (L Ls.rs y)) i))]) = y := by subst hL; exact fun y => (gK zg9 y _ rfl).2
   have hO : ∀ y : Ls, L zpn (.agg [.str (L Ls.n y), .int .u8 (L Pl.a (L Ls.pl y)), .int .u8 (L Pl.b (L Ls.pl y)), .int .u8 (L Pl.c (L Ls.pl y)), .int .u8 (L Pl.d (L Ls.pl y)), .int .u16 (L Pl.p (L Ls.pl y)), .lst 4 (L zb1 (L Ls.rs y)) (fun i => rtC L (L (L zfc (L Ls.rs y)) i))]) := by subst hL; exact fun y => (gK zg9 y _ rfl).1
   (cbv; try simp only [syT, true_and, and_true])
   simp only [hG, hO, true_and]
   have hw : zb1 l = l.length := rfl
   have hz : l.length <= 1000000 := hz
   refine ⟨fun hlt => ⟨?_, ?_, fun hb => ?_, fun hb => ⟨i + 1, ?_⟩⟩, fun hge => ?_⟩
   · (subst hL; subst hQ; simp only [L2, L3, std] at *; try simp only [syS, reduceCtorEq, Int.reduceToNat, Int.reduceAdd, Int.reduceSub] at *)
     omega
   · (subst hL; subst hQ; simp only [L2, L3, std] at *; try simp only [syS, reduceCtorEq, Int.reduceToNat, Int.reduceAdd, Int.reduceSub] at *)
     exact ha _ (by rw [zak, zbq (V := lsV) (by omega)]; exact List.getElem_mem _)
   · (subst hL; subst hQ; simp only [L2, L3, std] at *; try simp only [syS, reduceCtorEq, Int.reduceToNat, Int.reduceAdd, Int.reduceSub] at *)
     exact (zjn (V := lsV) hi (by omega) hb).symm
   · (cbv; try simp only [syT, true_and, and_true])
     try simp only [hG]
     (subst hL; subst hQ; simp only [L2, L3, std] at *; try simp only [syS, reduceCtorEq, Int.reduceToNat, Int.reduceAdd, Int.reduceSub] at *)
     exact ⟨by omega, zi2 (V := lsV) hi (by omega) hb, by omega⟩
   · (subst hL; subst hQ; simp only [L2, L3, std] at *; try simp only [syS, reduceCtorEq, Int.reduceToNat, Int.reduceAdd, Int.reduceSub] at *)
     exact (zjo hi (by omega)).symm
theorem ya3 (ih : zay Tryz.prog (prS 96 zpn zpe zg6 zyj std)) : zay Tryz.prog (yan 95 96 zty ztn yke zo9 std) := by
 intro xs p r h hp
 unfold yan at h
 simp only at h
 split at h
 rotate_left
 · cases h
 rename_i x k
 cases hk : zan k 96 with
 | false => rw [hk] at h; cases h
 | true =>
 rw [hk] at h
 obtain rfl : k = 96 := of_decide_eq_true hk
 cases h
 obtain ⟨ho, hz, ha⟩ := hp
 refine zlh zg9 ho ?_
 have hz : zi8 (rdW lsV x) := hz
 have ha : zo9 (rdW lsV x) := ha
 show za7 _ _ _ (.bool (yke (rdW lsV x)))
 generalize rdW lsV x = l at hz ha |-
 refine za8 (T := tt) (S := fun L => zai [yak 120 96 zty ztn ytn zo9 L]) (lo := fun _ => noA std) (lb := noA) 5 (fn := Tryz.f95) (xs := fun L => [zh5 L l, .fn 96 [] []]) rfl rfl (by kernel_rfl) (by kernel_rfl) rfl zaa
   (za1 ⟨zz8 ih, trivial⟩) (by kernel_rfl) ?_
 intro L P' Q' hL hP hQ
 (cbv; try simp only [syT, true_and, and_true])
 (subst hL; subst hQ; simp only [L2, L3, std] at *; try simp only [syS, reduceCtorEq, Int.reduceToNat, Int.reduceAdd, Int.reduceSub] at *)
 simp only [yn4]
 refine ⟨⟨ynm _, hz, ha⟩, ?_⟩
 have := zjz zg6 l
 rw [zwt, show yke l = l.any zg6 from rfl, <- this]; rfl
def yto (l : List Cl) : Int := zol zh4 l
def ykf (l : List Cl) : Bool := l.any zh4
def ysy (l : List Cl) (i : Nat) : Prop := zpu zh4 l i
def zoa (l : List Cl) : Prop := yao zyk l
theorem zz9 (ih : zay Tryz.prog (prS 98 zjj zjc zh4 zyk std)) : zay Tryz.prog (yak 121 98 zmn zmi yto zoa std) := by
 intro xs p r h hp
 unfold yak at h
 simp only at h
 split at h
 rotate_left
 · cases h
 rename_i x k
 cases hk : zan k 98 with
 | false => rw [hk] at h; cases h
 | true =>
 rw [hk] at h
 obtain rfl : k = 98 := of_decide_eq_true hk
 cases h
 obtain ⟨ho, hz, ha⟩ := hp
 refine zlh zdp ho ?_
 have hz : zi8 (rdW clV x) := hz
 have ha : zoa (rdW clV x) := ha
 show za7 _ _ _ (.int .i64 (zol zh4 (rdW clV x)))
 generalize rdW clV x = l at hz ha |-
 refine za8 (T := tt) (S := fun L => zai [prS 98 zjj zjc zh4 zyk L]) (lo := fun L => ixA L ysy l) (lb := noA) 5 (fn := Tryz.f121) (xs := fun L => [zg8 L l, .fn 98 [] []]) rfl rfl (by kernel_rfl) (by kernel_rfl) rfl zaa
   (za1 ⟨ih, trivial⟩) (by kernel_rfl) ?_
 intro L P' Q' hL hP hQ
 (cbv; try simp only [syT, true_and, and_true])
 refine ⟨⟨0, ?_⟩, fun i hi => ?_⟩
 · (cbv; try simp only [syT, true_and, and_true])
   (subst hL; subst hQ; simp only [L2, L3, std] at *; try simp only [syS, reduceCtorEq, Int.reduceToNat, Int.reduceAdd, Int.reduceSub] at *)
   exact zpt _ _
 · cbv at hi
   have hG : ∀ y : Cl, L zjc (.agg [.str (L Cl.n y), .lst 6 (L zb1 (L Cl.es y)) (fun i => epC L (L (L zex (L Cl.es y)) i))]) = y := by subst hL; exact fun y => (gK zdp y _ rfl).2
   have hO : ∀ y : Cl, L zjj (.agg [.str (L Cl.n y), .lst 6 (L zb1 (L Cl.es y)) (fun i => epC L (L (L zex (L Cl.es y)) i))]) := by subst hL; exact fun y => (gK zdp y _ rfl).1
   (cbv; try simp only [syT, true_and, and_true])
   simp only [hG, hO, true_and]
   have hw : zb1 l = l.length := rfl
   have hz : l.length <= 1000000 := hz
   refine ⟨fun hlt => ⟨?_, ?_, fun hb => ?_, fun hb => ⟨i + 1, ?_⟩⟩, fun hge => ?_⟩
   · (subst hL; subst hQ; simp only [L2, L3, std] at *; try simp only [syS, reduceCtorEq, Int.reduceToNat, Int.reduceAdd, Int.reduceSub] at *)
     omega
   · (subst hL; subst hQ; simp only [L2, L3, std] at *; try simp only [syS, reduceCtorEq, Int.reduceToNat, Int.reduceAdd, Int.reduceSub] at *)
     exact ha _ (by rw [zam, zbq (V := clV) (by omega)]; exact List.getElem_mem _)
   · (subst hL; subst hQ; simp only [L2, L3, std] at *; try simp only [syS, reduceCtorEq, Int.reduceToNat, Int.reduceAdd, Int.reduceSub] at *)
     exact (zjn (V := clV) hi (by omega) hb).symm
   · (cbv; try simp only [syT, true_and, and_true])
     try simp only [hG]
     (subst hL; subst hQ; simp only [L2, L3, std] at *; try simp only [syS, reduceCtorEq, Int.reduceToNat, Int.reduceAdd, Int.reduceSub] at *)
     exact ⟨by omega, zi2 (V := clV) hi (by omega) hb, by omega⟩
   · (subst hL; subst hQ; simp only [L2, L3, std] at *; try simp only [syS, reduceCtorEq, Int.reduceToNat, Int.reduceAdd, Int.reduceSub] at *)
     exact (zjo hi (by omega)).symm
theorem ya4 (ih : zay Tryz.prog (prS 98 zjj zjc zh4 zyk std)) : zay Tryz.prog (yan 97 98 zmn zmi ykf zoa std) := by
 intro xs p r h hp
 unfold yan at h
 simp only at h
 split at h
 rotate_left
 · cases h
 rename_i x k
 cases hk : zan k 98 with
 | false => rw [hk] at h; cases h
 | true =>
 rw [hk] at h
 obtain rfl : k = 98 := of_decide_eq_true hk
 cases h
 obtain ⟨ho, hz, ha⟩ := hp
 refine zlh zdp ho ?_
 have hz : zi8 (rdW clV x) := hz
 have ha : zoa (rdW clV x) := ha
 show za7 _ _ _ (.bool (ykf (rdW clV x)))
 generalize rdW clV x = l at hz ha |-
 refine za8 (T := tt) (S := fun L => zai [yak 121 98 zmn zmi yto zoa L]) (lo := fun _ => noA std) (lb := noA) 5 (fn := Tryz.f97) (xs := fun L => [zg8 L l, .fn 98 [] []]) rfl rfl (by kernel_rfl) (by kernel_rfl) rfl zaa
   (za1 ⟨zz9 ih, trivial⟩) (by kernel_rfl) ?_
 intro L P' Q' hL hP hQ
 (cbv; try simp only [syT, true_and, and_true])
 (subst hL; subst hQ; simp only [L2, L3, std] at *; try simp only [syS, reduceCtorEq, Int.reduceToNat, Int.reduceAdd, Int.reduceSub] at *)
 simp only [ycs]
 refine ⟨⟨ydd _, hz, ha⟩, ?_⟩
 have := zjz zh4 l
 rw [zwt, show ykf l = l.any zh4 from rfl, <- this]; rfl
def ytp (l : List Ep) : Int := zol zqw l
def ykg (l : List Ep) : Bool := l.any zqw
def ysz (l : List Ep) (i : Nat) : Prop := zpu zqw l i
def zob (l : List Ep) : Prop := yao zym l
theorem zza (ih : zay Tryz.prog (prS 101 zpo zpf zqw zym std)) : zay Tryz.prog (yak 122 101 ztz zto ytp zob std) := by
 intro xs p r h hp
 unfold yak at h
 simp only at h
 split at h
 rotate_left
 · cases h
 rename_i x k
 cases hk : zan k 101 with
 | false => rw [hk] at h; cases h
 | true =>
 rw [hk] at h
 obtain rfl : k = 101 := of_decide_eq_true hk
 cases h
 obtain ⟨ho, hz, ha⟩ := hp
 refine zlh zgc ho ?_
 have hz : zi8 (rdW epV x) := hz
 have ha : zob (rdW epV x) := ha
 show za7 _ _ _ (.int .i64 (zol zqw (rdW epV x)))
 generalize rdW epV x = l at hz ha |-
 refine za8 (T := tt) (S := fun L => zai [prS 101 zpo zpf zqw zym L]) (lo := fun L => ixA L ysz l) (lb := noA) 5 (fn := Tryz.f122) (xs := fun L => [zua L l, .fn 101 [] []]) rfl rfl (by kernel_rfl) (by kernel_rfl) rfl zaa
   (za1 ⟨ih, trivial⟩) (by kernel_rfl) ?_
 intro L P' Q' hL hP hQ
 (cbv; try simp only [syT, true_and, and_true])
 refine ⟨⟨0, ?_⟩, fun i hi => ?_⟩
 · (cbv; try simp only [syT, true_and, and_true])
   (subst hL; subst hQ; simp only [L2, L3, std] at *; try simp only [syS, reduceCtorEq, Int.reduceToNat, Int.reduceAdd, Int.reduceSub] at *)
   exact zpt _ _
 · cbv at hi
   have hG : ∀ y : Ep, L zpf (.agg [.int .u8 (L Pl.a (L Ep.pl y)), .int .u8 (L Pl.b (L Ep.pl y)), .int .u8 (L Pl.c (L Ep.pl y)), .int .u8 (L Pl.d (L Ep.pl y)), .int .u16 (L Pl.p (L Ep.pl y)), .int .i64 (L Ep.w y)]) = y := by subst hL; exact fun y => (gK zgc y _ rfl).2
   have hO : ∀ y : Ep, L zpo (.agg [.int .u8 (L Pl.a (L Ep.pl y)), .int .u8 (L Pl.b (L Ep.pl y)), .int .u8 (L Pl.c (L Ep.pl y)), .int .u8 (L Pl.d (L Ep.pl y)), .int .u16 (L Pl.p (L Ep.pl y)), .int .i64 (L Ep.w y)]) := by subst hL; exact fun y => (gK zgc y _ rfl).1
   (cbv; try simp only [syT, true_and, and_true])
   simp only [hG, hO, true_and]
   have hw : zb1 l = l.length := rfl
   have hz : l.length <= 1000000 := hz
   refine ⟨fun hlt => ⟨?_, ?_, fun hb => ?_, fun hb => ⟨i + 1, ?_⟩⟩, fun hge => ?_⟩
   · (subst hL; subst hQ; simp only [L2, L3, std] at *; try simp only [syS, reduceCtorEq, Int.reduceToNat, Int.reduceAdd, Int.reduceSub] at *)
     omega
   · (subst hL; subst hQ; simp only [L2, L3, std] at *; try simp only [syS, reduceCtorEq, Int.reduceToNat, Int.reduceAdd, Int.reduceSub] at *)
     exact ha _ (by rw [zex, zbq (V := epV) (by omega)]; exact List.getElem_mem _)
   · (subst hL; subst hQ; simp only [L2, L3, std] at *; try simp only [syS, reduceCtorEq, Int.reduceToNat, Int.reduceAdd, Int.reduceSub] at *)
     exact (zjn (V := epV) hi (by omega) hb).symm
   · (cbv; try simp only [syT, true_and, and_true])
     try simp only [hG]
     (subst hL; subst hQ; simp only [L2, L3, std] at *; try simp only [syS, reduceCtorEq, Int.reduceToNat, Int.reduceAdd, Int.reduceSub] at *)
     exact ⟨by omega, zi2 (V := epV) hi (by omega) hb, by omega⟩
   · (subst hL; subst hQ; simp only [L2, L3, std] at *; try simp only [syS, reduceCtorEq, Int.reduceToNat, Int.reduceAdd, Int.reduceSub] at *)
     exact (zjo hi (by omega)).symm
theorem ya5 (ih : zay Tryz.prog (prS 101 zpo zpf zqw zym std)) : zay Tryz.prog (yan 100 101 ztz zto ykg zob std) := by
 intro xs p r h hp
 unfold yan at h
 simp only at h
 split at h
 rotate_left
 · cases h
 rename_i x k
 cases hk : zan k 101 with
 | false => rw [hk] at h; cases h
 | true =>
 rw [hk] at h
 obtain rfl : k = 101 := of_decide_eq_true hk
 cases h
 obtain ⟨ho, hz, ha⟩ := hp
 refine zlh zgc ho ?_
 have hz : zi8 (rdW epV x) := hz
 have ha : zob (rdW epV x) := ha
 show za7 _ _ _ (.bool (ykg (rdW epV x)))
 generalize rdW epV x = l at hz ha |-
 refine za8 (T := tt) (S := fun L => zai [yak 122 101 ztz zto ytp zob L]) (lo := fun _ => noA std) (lb := noA) 5 (fn := Tryz.f100) (xs := fun L => [zua L l, .fn 101 [] []]) rfl rfl (by kernel_rfl) (by kernel_rfl) rfl zaa
   (za1 ⟨zza ih, trivial⟩) (by kernel_rfl) ?_
 intro L P' Q' hL hP hQ
 (cbv; try simp only [syT, true_and, and_true])
 (subst hL; subst hQ; simp only [L2, L3, std] at *; try simp only [syS, reduceCtorEq, Int.reduceToNat, Int.reduceAdd, Int.reduceSub] at *)
 simp only [yn5]
 refine ⟨⟨ynn _, hz, ha⟩, ?_⟩
 have := zjz zqw l
 rw [zwt, show ykg l = l.any zqw from rfl, <- this]; rfl
theorem yqm : zay Tryz.prog (prS 99 zjj zjc zqr ztr std) := by
 intro xs p r h hp
 dsimp only [prS] at h |-
 split at h <;> cases h
 try simp only [L2, L3, std] at hp |-
 rename_i x
 refine zt2 zdp hp.1 ?_
 have hp := hp.2
 show za7 _ _ _ (.bool (zqr (rdG clV x)))
 have hp : ztr (rdG clV x) := hp
 generalize rdG clV x = y at hp |-
 refine za8 (T := tt) (S := fun L => zai [yan 100 101 ztz zto ykg zob L]) (lo := fun _ => noA std) (lb := noA) 5 (fn := Tryz.f99) (xs := fun L => [.agg [.str (L Cl.n y), zua L (L Cl.es y)]]) rfl rfl (by kernel_rfl) (by kernel_rfl) rfl zaa (za1 ⟨ya5 yql, trivial⟩) (by kernel_rfl) ?_
 intro L P' Q' hL hP hQ
 (cbv; try simp only [syT, true_and, and_true])
 (subst hL; subst hQ; simp only [L2, L3, std] at *; try simp only [syS, reduceCtorEq, Int.reduceToNat, Int.reduceAdd, Int.reduceSub] at *)
 simp only [yn5]
 exact ⟨⟨ynn _, hp, fun _ _ => trivial⟩, rfl⟩
def ytq (l : List Cl) : Int := zol zqr l
def ykh (l : List Cl) : Bool := l.any zqr
def yt0 (l : List Cl) (i : Nat) : Prop := zpu zqr l i
def zoc (l : List Cl) : Prop := yao ztr l
theorem zzb (ih : zay Tryz.prog (prS 99 zjj zjc zqr ztr std)) : zay Tryz.prog (yak 121 99 zmn zmi ytq zoc std) := by
 intro xs p r h hp
 unfold yak at h
 simp only at h
 split at h
 rotate_left
 · cases h
 rename_i x k
 cases hk : zan k 99 with
 | false => rw [hk] at h; cases h
 | true =>
 rw [hk] at h
 obtain rfl : k = 99 := of_decide_eq_true hk
 cases h
 obtain ⟨ho, hz, ha⟩ := hp
 refine zlh zdp ho ?_
 have hz : zi8 (rdW clV x) := hz
 have ha : zoc (rdW clV x) := ha
 show za7 _ _ _ (.int .i64 (zol zqr (rdW clV x)))
 generalize rdW clV x = l at hz ha |-
 refine za8 (T := tt) (S := fun L => zai [prS 99 zjj zjc zqr ztr L]) (lo := fun L => ixA L yt0 l) (lb := noA) 5 (fn := Tryz.f121) (xs := fun L => [zg8 L l, .fn 99 [] []]) rfl rfl (by kernel_rfl) (by kernel_rfl) rfl zaa
   (za1 ⟨ih, trivial⟩) (by kernel_rfl) ?_
 intro L P' Q' hL hP hQ
 (cbv; try simp only [syT, true_and, and_true])
 refine ⟨⟨0, ?_⟩, fun i hi => ?_⟩
 · (cbv; try simp only [syT, true_and, and_true])
   (subst hL; subst hQ; simp only [L2, L3, std] at *; try simp only [syS, reduceCtorEq, Int.reduceToNat, Int.reduceAdd, Int.reduceSub] at *)
   exact zpt _ _
 · cbv at hi
   have hG : ∀ y : Cl, L zjc (.agg [.str (L Cl.n y), .lst 6 (L zb1 (L Cl.es y)) (fun i => epC L (L (L zex (L Cl.es y)) i))]) = y := by subst hL; exact fun y => (gK zdp y _ rfl).2
   have hO : ∀ y : Cl, L zjj (.agg [.str (L Cl.n y), .lst 6 (L zb1 (L Cl.es y)) (fun i => epC L (L (L zex (L Cl.es y)) i))]) := by subst hL; exact fun y => (gK zdp y _ rfl).1
   (cbv; try simp only [syT, true_and, and_true])
   simp only [hG, hO, true_and]
   have hw : zb1 l = l.length := rfl
   have hz : l.length <= 1000000 := hz
   refine ⟨fun hlt => ⟨?_, ?_, fun hb => ?_, fun hb => ⟨i + 1, ?_⟩⟩, fun hge => ?_⟩
   · (subst hL; subst hQ; simp only [L2, L3, std] at *; try simp only [syS, reduceCtorEq, Int.reduceToNat, Int.reduceAdd, Int.reduceSub] at *)
     omega
   · (subst hL; subst hQ; simp only [L2, L3, std] at *; try simp only [syS, reduceCtorEq, Int.reduceToNat, Int.reduceAdd, Int.reduceSub] at *)
     exact ha _ (by rw [zam, zbq (V := clV) (by omega)]; exact List.getElem_mem _)
   · (subst hL; subst hQ; simp only [L2, L3, std] at *; try simp only [syS, reduceCtorEq, Int.reduceToNat, Int.reduceAdd, Int.reduceSub] at *)
     exact (zjn (V := clV) hi (by omega) hb).symm
   · (cbv; try simp only [syT, true_and, and_true])
     try simp only [hG]
     (subst hL; subst hQ; simp only [L2, L3, std] at *; try simp only [syS, reduceCtorEq, Int.reduceToNat, Int.reduceAdd, Int.reduceSub] at *)
     exact ⟨by omega, zi2 (V := clV) hi (by omega) hb, by omega⟩
   · (subst hL; subst hQ; simp only [L2, L3, std] at *; try simp only [syS, reduceCtorEq, Int.reduceToNat, Int.reduceAdd, Int.reduceSub] at *)
     exact (zjo hi (by omega)).symm
theorem ya6 (ih : zay Tryz.prog (prS 99 zjj zjc zqr ztr std)) : zay Tryz.prog (yan 97 99 zmn zmi ykh zoc std) := by
 intro xs p r h hp
 unfold yan at h
 simp only at h
 split at h
 rotate_left
 · cases h
 rename_i x k
 cases hk : zan k 99 with
 | false => rw [hk] at h; cases h
 | true =>
 rw [hk] at h
 obtain rfl : k = 99 := of_decide_eq_true hk
 cases h
 obtain ⟨ho, hz, ha⟩ := hp
 refine zlh zdp ho ?_
 have hz : zi8 (rdW clV x) := hz
 have ha : zoc (rdW clV x) := ha
 show za7 _ _ _ (.bool (ykh (rdW clV x)))
 generalize rdW clV x = l at hz ha |-
 refine za8 (T := tt) (S := fun L => zai [yak 121 99 zmn zmi ytq zoc L]) (lo := fun _ => noA std) (lb := noA) 5 (fn := Tryz.f97) (xs := fun L => [zg8 L l, .fn 99 [] []]) rfl rfl (by kernel_rfl) (by kernel_rfl) rfl zaa
   (za1 ⟨zzb ih, trivial⟩) (by kernel_rfl) ?_
 intro L P' Q' hL hP hQ
 (cbv; try simp only [syT, true_and, and_true])
 (subst hL; subst hQ; simp only [L2, L3, std] at *; try simp only [syS, reduceCtorEq, Int.reduceToNat, Int.reduceAdd, Int.reduceSub] at *)
 simp only [ycs]
 refine ⟨⟨ydd _, hz, ha⟩, ?_⟩
 have := zjz zqr l
 rw [zwt, show ykh l = l.any zqr from rfl, <- this]; rfl
structure zvl (v : CV) (a b : Nat) : Prop where
 wf : wfV v
 sz : sizeC v <= a
 tx : (zbe v).length <= b
theorem zvl.up {v : CV} {a b a' b' : Nat} (h : zvl v a b) (ha : a <= a') (hb : b <= b') : zvl v a' b' := ⟨h.wf, by have := h.sz; omega, by have := h.tx; omega⟩
theorem zur {n : Int} (h : zax n) : zvl (zep n) 1 11 := by
 refine ⟨?_, ?_, ?_⟩
 · rw [zep, wfV, zkc]; exact ⟨h, by decide, trivial⟩
 · rw [zep, zc0, zbp]; omega
 · rw [zep, zae, if_pos rfl, List.length_append]
   have := zbx h
   have e : (zf6 1).length = 1 := rfl
   omega
theorem ziv {s : List UInt8} {m : Nat} (h : s.length <= m) (hm : m <= 1000000) : zvl (zgh s) 1 (11 + m) := by
 refine ⟨?_, ?_, ?_⟩
 · rw [zgh, wfV, zkc]; exact ⟨⟨by decide, by decide⟩, by omega, trivial⟩
 · rw [zgh, zc0, zbp]; omega
 · rw [zgh, zae, if_neg (by decide), if_pos rfl, List.length_append, List.length_append]
   have := zbx (n := (s.length : Int)) ⟨by omega, by omega⟩
   have e : (zf6 2).length = 1 := rfl
   omega
theorem ylk {a b : Nat} : ∀ {l : List CV}, (∀ v ∈ l, zvl v a b) -> zkc l /\ sizeCs l <= l.length * a /\ (zap l).length <= l.length * b
 | [], _ => by rw [zkc, zbp, zap]; exact ⟨trivial, by simp, by simp⟩
 | v :: l, h => by
   obtain ⟨i1, i2, i3⟩ := ylk (l := l) fun w hw => h w (by simp [hw])
   have hv := h v (by simp)
   have h2 := hv.sz
   have h3 := hv.tx
   rw [zkc, zb5, zap, List.length_append, List.length_cons, Nat.succ_mul, Nat.succ_mul]
   exact ⟨⟨hv.wf, i1⟩, by omega, by omega⟩
theorem zkt {l : List CV} {a b : Nat} (m : Nat) (h : ∀ v ∈ l, zvl v a b) (hl : l.length <= m) (hm : m <= 1000) : zvl (zc3 l) (m * a + 1) (11 + m * b) := by
 obtain ⟨i1, i2, i3⟩ := ylk h
 have e1 := Nat.mul_le_mul_right a hl
 have e2 := Nat.mul_le_mul_right b hl
 refine ⟨?_, ?_, ?_⟩
 · rw [zc3, wfV]; exact ⟨⟨by decide, by decide⟩, by decide, i1⟩
 · rw [zc3, zc0]; omega
 · rw [zc3, zae, if_neg (by decide), if_neg (by decide), List.length_append, List.length_append]
   have := zbx (n := (l.length : Int)) ⟨by omega, by omega⟩
   have e : (zf6 3).length = 1 := rfl
   omega
def zii (x : Rt) : Bool := decide (x.h.length <= 300) && decide (x.p.length <= 300) && decide (x.c.length <= 300)
def ze1 (x : Ls) : Bool := decide (x.n.length <= 300) && decide (x.rs.length <= 12) && x.rs.all zii
def zf1 (x : Cl) : Bool := decide (x.n.length <= 300) && decide (x.es.length <= 12)
def ze2 (x : Cf) : Bool := decide (x.ls.length <= 12) && decide (x.cs.length <= 12) && x.ls.all ze1 && x.cs.all zf1
def yw3 (x : Rt) : Prop := zax x.i
def yw4 (x : Ep) : Prop := zsz x.pl /\ -9223372036854775808 <= x.w /\ x.w <= 9223372036854775807
def ym4 (x : Ls) : Prop := zsz x.pl /\ ∀ r ∈ x.rs, yw3 r
def yw5 (x : Cl) : Prop := ∀ e ∈ x.es, yw4 e
def yv6 (x : Cf) : Prop := zax x.v /\ (∀ l ∈ x.ls, ym4 l) /\ ∀ c ∈ x.cs, yw5 c
def zlf (x : Cf) : CV := zc3 [zep x.v, zwm x.ls, zx6 x.cs]
theorem yd7 (x : Pl) : (plB x).length = 6 := rfl
theorem ytv {x : Rt} (hl : zii x = true) (hw : yw3 x) : zvl (zhb x) 5 1255 := by
 simp only [zii, Bool.and_eq_true, decide_eq_true_eq] at hl
 refine zkt (a := 1) (b := 311) 4 (fun v hv => ?_) (Nat.le_of_ble_eq_true rfl) (by decide)
 simp only [List.mem_cons, List.not_mem_nil, or_false] at hv
 rcases hv with rfl | rfl | rfl | rfl
 · exact ziv hl.1.1 (by omega)
 · exact ziv hl.1.2 (by omega)
 · exact ziv hl.2 (by omega)
 · exact (zur hw).up (by omega) (by omega)
theorem zls {α : Type} {val : α -> CV} {l : List α} {a b : Nat} (m : Nat) (h : ∀ x ∈ l, zvl (val x) a b) (hl : l.length <= m) (hm : m <= 1000) : zvl (zqj val l) (m * a + 1) (11 + m * b) :=
 zkt m (fun v hv => by obtain ⟨x, hx, rfl⟩ := List.mem_map.1 hv; exact h x hx) (by simpa using hl) hm
theorem ytw {x : Ep} (hw : yw4 x) : zvl (zhn x) 3 45 := by
 refine zkt (a := 1) (b := 17) 2 (fun v hv => ?_) (Nat.le_of_ble_eq_true rfl) (by decide)
 simp only [List.mem_cons, List.not_mem_nil, or_false] at hv
 rcases hv with rfl | rfl
 · exact ziv (m := 6) (Nat.le_of_eq (yd7 _)) (by omega)
 · exact (zur ⟨by omega, by omega⟩).up (by omega) (by omega)
theorem ypc {x : Ls} (hl : ze1 x = true) (hw : ym4 x) : zvl (zig x) 184 45224 := by
 simp only [ze1, Bool.and_eq_true, decide_eq_true_eq, List.all_eq_true] at hl
 refine zkt (a := 61) (b := 15071) 3 (fun v hv => ?_) (Nat.le_of_ble_eq_true rfl) (by decide)
 simp only [List.mem_cons, List.not_mem_nil, or_false] at hv
 rcases hv with rfl | rfl | rfl
 · exact (ziv hl.1.1 (by omega)).up (by omega) (by omega)
 · exact (ziv (m := 6) (Nat.le_of_eq (yd7 _)) (by omega)).up (by omega) (by omega)
 · exact (zls (a := 5) (b := 1255) 12 (fun r hr => ytv (hl.2 r hr) (hw.2 r hr)) hl.1.2 (by omega)).up (by omega) (by omega)
theorem ytx {x : Cl} (hl : zf1 x = true) (hw : yw5 x) : zvl (zih x) 75 1113 := by
 simp only [zf1, Bool.and_eq_true, decide_eq_true_eq] at hl
 refine zkt (a := 37) (b := 551) 2 (fun v hv => ?_) (Nat.le_of_ble_eq_true rfl) (by decide)
 simp only [List.mem_cons, List.not_mem_nil, or_false] at hv
 rcases hv with rfl | rfl
 · exact (ziv hl.1 (by omega)).up (by omega) (by omega)
 · exact (zls (a := 3) (b := 45) 12 (fun e he => ytw (hw e he)) hl.2 (by omega)).up (by omega) (by omega)
theorem yll {x : Cf} (hl : ze2 x = true) (hw : yv6 x) : zvl (zlf x) 7000 2000000 := by
 simp only [ze2, Bool.and_eq_true, decide_eq_true_eq, List.all_eq_true] at hl
 refine (zkt (a := 2209) (b := 542699) 3 (fun v hv => ?_) (Nat.le_of_ble_eq_true rfl) (by decide)).up (by decide) (by decide)
 simp only [List.mem_cons, List.not_mem_nil, or_false] at hv
 rcases hv with rfl | rfl | rfl
 · exact (zur hw.1).up (by omega) (by omega)
 · exact (zls (a := 184) (b := 45224) 12 (fun r hr => ypc (hl.1.2 r hr) (hw.2.1 r hr)) hl.1.1.1 (by omega)).up (by omega) (by omega)
 · exact (zls (a := 75) (b := 1113) 12 (fun r hr => ytx (hl.2 r hr) (hw.2.2 r hr)) hl.1.1.2 (by omega)).up (by omega) (by omega)
def zh3 (x : Cf) : Bool := decide (8 < x.ls.length \/ 8 < x.cs.length) || x.ls.any zg6 || x.cs.any zh4
def ygr (x : Cf) : Bool := x.cs.any zqr
def cfE (x : Cf) : Int := if zh3 x = true then 6 else if ygr x = true then 7 else zjf (zlf x)
def cfT (x : Cf) : List UInt8 := if cfE x = 0 then zje (zlf x) else []
theorem zv5 {x : Cf} (hx : cfE x = 0) : (cfT x).length <= 8192 := by
 have h : zjf (zlf x) = 0 := by
   unfold cfE at hx
   split at hx
   · cases hx
   · split at hx
     · cases hx
     · exact hx
 rw [cfT, if_pos hx, (ycz h).2.2.2]
 exact (ycz h).2.2.1
theorem lit3 (a b c : CV) : rdL (.lst 4 3 fun i j => zby .dead [.int .i64 a.kd, .int .u64 a.nn, .str a.tx, .lst 4 (zcx a) (zer a), .int .i64 b.kd, .int .u64 b.nn, .str b.tx, .lst 4 (zcx b) (zer b), .int .i64 c.kd, .int .u64 c.nn, .str c.tx, .lst 4 (zcx c) (zer c)] (i * 4 + j)) = [a, b, c] := (zne [a, b, c] (n := 3) rfl rfl).1
theorem yoe (a b c : CV) : okL (.lst 4 3 fun i j => zby .dead [.int .i64 a.kd, .int .u64 a.nn, .str a.tx, .lst 4 (zcx a) (zer a), .int .i64 b.kd, .int .u64 b.nn, .str b.tx, .lst 4 (zcx b) (zer b), .int .i64 c.kd, .int .u64 c.nn, .str c.tx, .lst 4 (zcx c) (zer c)] (i * 4 + j)) := (zne [a, b, c] (n := 3) rfl rfl).2
def ytd (n : Nat) (x : Cf) : Prop := x.ls.length <= n /\ x.cs.length <= n
def yne (x : Cf) : Prop := ytd 1000000 x
def ynf (x : Cf) : Prop := zi8 x.cs /\ ∀ c ∈ x.cs, ztr c
theorem zyy : zay Tryz.prog (prS 62 zh2 zbv zh3 yne std) := by
 intro xs p r h hp
 dsimp only [prS] at h |-
 split at h <;> cases h
 try simp only [L2, L3, std] at hp |-
 rename_i x
 refine zt2 ze4 hp.1 ?_
 have hp := hp.2
 show za7 _ _ _ (.bool (zh3 (rdG cfV x)))
 have hp : yne (rdG cfV x) := hp
 generalize rdG cfV x = y at hp |-
 refine za8 (T := tt) (S := fun L => zai [yan 95 96 zty ztn yke zo9 L, yan 97 98 zmn zmi ykf zoa L]) (lo := fun _ => noA std) (lb := noA) 5 (fn := Tryz.f62) (xs := fun L => [.agg [.int .u64 (L Cf.v y), zh5 L (L Cf.ls y), zg8 L (L Cf.cs y)]]) rfl rfl (by kernel_rfl) (by kernel_rfl) rfl zaa (za1 ⟨ya3 yoa, ya4 yob, trivial⟩) (by kernel_rfl) ?_
 intro L P' Q' hL hP hQ
 (cbv; try simp only [syT, true_and, and_true])
 (subst hL; subst hQ; simp only [L2, L3, std] at *; try simp only [syS, reduceCtorEq, Int.reduceToNat, Int.reduceAdd, Int.reduceSub] at *)
 simp only [yn4, ycs]
 have e1 : zb1 y.ls = y.ls.length := rfl
 have e2 : zb1 y.cs = y.cs.length := rfl
 refine ⟨fun h => ?_, fun h => ⟨⟨ynm _, hp.1, fun _ _ => trivial⟩, fun h2 => ?_, fun h2 => ⟨⟨ydd _, hp.2, fun _ _ => trivial⟩, ?_⟩⟩⟩
 · unfold zh3; rw [decide_eq_true (by omega)]; rfl
 · unfold zh3; rw [show y.ls.any zg6 = true from h2]; simp
 · unfold zh3; rw [show y.ls.any zg6 = false from h2, decide_eq_false (by omega)]; simp; rfl
theorem yga : zay Tryz.prog (prS 63 zh2 zbv ygr ynf std) := by
 intro xs p r h hp
 dsimp only [prS] at h |-
 split at h <;> cases h
 try simp only [L2, L3, std] at hp |-
 rename_i x
 refine zt2 ze4 hp.1 ?_
 have hp := hp.2
 show za7 _ _ _ (.bool (ygr (rdG cfV x)))
 have hp : ynf (rdG cfV x) := hp
 generalize rdG cfV x = y at hp |-
 refine za8 (T := tt) (S := fun L => zai [yan 97 99 zmn zmi ykh zoc L]) (lo := fun _ => noA std) (lb := noA) 5 (fn := Tryz.f63) (xs := fun L => [.agg [.int .u64 (L Cf.v y), zh5 L (L Cf.ls y), zg8 L (L Cf.cs y)]]) rfl rfl (by kernel_rfl) (by kernel_rfl) rfl zaa (za1 ⟨ya6 yqm, trivial⟩) (by kernel_rfl) ?_
 intro L P' Q' hL hP hQ
 (cbv; try simp only [syT, true_and, and_true])
 (subst hL; subst hQ; simp only [L2, L3, std] at *; try simp only [syS, reduceCtorEq, Int.reduceToNat, Int.reduceAdd, Int.reduceSub] at *)
 simp only [ycs]
 exact ⟨⟨ydd _, hp.1, hp.2⟩, rfl⟩
def znh (x : Cf) : Prop := ze2 x = true /\ yv6 x
def ykd (L : za9) : zbn := (39, fun xs => match xs with
 | [x] => some (L zh2 x /\ L znh (L zbv x), .tup [.str (L cfT (L zbv x)), .int .i64 (L cfE (L zbv x))])
 | _ => none)
theorem zxc : zay Tryz.prog (ykd std) := by
 intro xs p r h hp
 dsimp only [ykd] at h |-
 split at h <;> cases h
 try simp only [L2, L3, std] at hp |-
 rename_i x
 refine zt2 ze4 hp.1 ?_
 have hp := hp.2
 show za7 _ _ _ (.tup [.str (cfT (rdG cfV x)), .int .i64 (cfE (rdG cfV x))])
 have hp : znh (rdG cfV x) := hp
 generalize rdG cfV x = y at hp |-
 refine za8 (T := tt) (S := fun L => zai [prS 62 zh2 zbv zh3 yne L, prS 63 zh2 zbv ygr ynf L, zu1 L, zga L, zsf 7000 L, zle 64 65 zty ztn ylh zwm L, zle 66 67 zmn zmi ylt zx6 L]) (lo := fun _ => noA std) (lb := noA) 5 (fn := Tryz.f39) (xs := fun L => [.agg [.int .u64 (L Cf.v y), zh5 L (L Cf.ls y), zg8 L (L Cf.cs y)]]) rfl rfl (by kernel_rfl) (by kernel_rfl) rfl zaa (za1 ⟨zyy, yga, zjl, zco, zkv 7000, zuv zq3, zux zsg, trivial⟩) (by kernel_rfl) ?_
 intro L P' Q' hL hP hQ
 have hG : L zbv (.agg [.int .u64 (L Cf.v y), .lst 7 (L zb1 (L Cf.ls y)) (fun i => lsC L (L (L zak (L Cf.ls y)) i)), .lst 2 (L zb1 (L Cf.cs y)) (fun i => clC L (L (L zam (L Cf.cs y)) i))]) = y := by subst hL; exact (gK ze4 y _ rfl).2
 have hO : L zh2 (.agg [.int .u64 (L Cf.v y), .lst 7 (L zb1 (L Cf.ls y)) (fun i => lsC L (L (L zak (L Cf.ls y)) i)), .lst 2 (L zb1 (L Cf.cs y)) (fun i => clC L (L (L zam (L Cf.cs y)) i))]) := by subst hL; exact (gK ze4 y _ rfl).1
 (cbv; try simp only [syT, true_and, and_true])
 simp only [hG, hO, true_and]
 (subst hL; subst hQ; simp only [L2, L3, std] at *; try simp only [syS, reduceCtorEq, Int.reduceToNat, Int.reduceAdd, Int.reduceSub] at *)
 simp only [yn4, ycs]
 simp only [lit3, zbm, zad]
 obtain ⟨hl, hw⟩ := hp
 have hf := yll hl hw
 have hl' := hl
 simp only [ze2, Bool.and_eq_true, decide_eq_true_eq, List.all_eq_true, ze1, zf1] at hl'
 obtain ⟨⟨⟨l1, l2⟩, l3⟩, l4⟩ := hl'
 have sz1 : ∀ {α : Type} {l : List α} (n : Nat), n <= 12 -> l.length <= n -> zi8 l := fun n hn hl => by show _ <= 1000000; omega
 refine ⟨⟨by omega, by omega⟩, fun h => ?_, fun h => ⟨⟨sz1 12 (by omega) l2, fun c hc => sz1 12 (by omega) (l4 c hc).2⟩, fun h2 => ?_, fun h2 => ⟨⟨ynm _, sz1 12 (by omega) l1, fun x hx => ⟨(hw.2.1 x hx).1, sz1 12 (by omega) (l3 x hx).1.2⟩⟩, ⟨ydd _, sz1 12 (by omega) l2, fun c hc => ⟨sz1 12 (by omega) (l4 c hc).2, fun e he => (hw.2.2 c hc e he).1⟩⟩, ⟨yoe _ _ _, by show (3 : Nat) <= 1000000; omega⟩, ⟨(zfb _).2, ⟨hf.sz, by omega⟩, hf.wf, ?_⟩, ?_⟩⟩⟩
 · have e : cfE y = 6 := by unfold cfE; rw [if_pos h]
   exact ⟨by rw [cfT, if_neg (by rw [e]; decide)], e.symm⟩
 · have e : cfE y = 7 := by unfold cfE; rw [if_neg (by rw [h]; decide), if_pos h2]
   exact ⟨by rw [cfT, if_neg (by rw [e]; decide)], e.symm⟩
 · have := hf.tx
   show (zbe (zlf y)).length <= 90000000
   omega
 · have e : cfE y = zjf (zlf y) := by unfold cfE; rw [if_neg (by rw [h]; decide), if_neg (by rw [h2]; decide)]
   refine ⟨?_, e.symm⟩
   show zje (zlf y) = cfT y
   unfold cfT
   rw [e]
   split
   · rfl
   · rename_i h3
     unfold zje; rw [if_neg h3]
def znk {α : Type} (V : Vw α) (p : α -> Bool) (l : List α) (i : Nat) : Prop := i <= l.length /\ ∀ j, j < i -> p (zps V l j) = true
theorem ziy {α : Type} (V : Vw α) (p : α -> Bool) (l : List α) : znk V p l 0 := ⟨Nat.zero_le _, fun j hj => by omega⟩
theorem zdw {α : Type} {V : Vw α} {p : α -> Bool} {l : List α} {i : Nat} (h : znk V p l i) (hi : i < l.length) (hp : p (zps V l i) = true) : znk V p l (i + 1) :=
 ⟨hi, fun j hj => by by_cases e : j = i; · rw [e]; exact hp
                     · exact h.2 j (by omega)⟩
theorem zdy {α : Type} {V : Vw α} {p : α -> Bool} {l : List α} {i : Nat} (hi : i < l.length) (hp : p (zps V l i) = false) : l.all p = false := by
 rw [List.all_eq_false]
 exact ⟨l[i], List.getElem_mem _, by rw [zbq hi] at hp; rw [hp]; decide⟩
theorem zf8 {α : Type} {V : Vw α} {p : α -> Bool} {l : List α} {i : Nat} (h : znk V p l i) (hi : l.length <= i) : l.all p = true := by
 rw [List.all_eq_true]
 intro x hx
 obtain ⟨j, hj, rfl⟩ := List.getElem_of_mem hx
 have := h.2 j (by omega)
 rwa [zbq hj] at this
def toLs (l : List Ls) (i : Nat) : Prop := znk lsV ze1 l i
def toRt (l : List Rt) (i : Nat) : Prop := znk rtV zii l i
def toCl (l : List Cl) (i : Nat) : Prop := znk clV zf1 l i
def yv9 {α : Type} (l : List α) (i : Nat) : Nat := l.length - i
def yvt (l : List Ls) (i : Nat) : Nat := yv9 l i
def yy0 (l : List Rt) (i : Nat) : Nat := yv9 l i
def ytr (l : List Cl) (i : Nat) : Nat := yv9 l i
def ytc (L : za9) (y : Cf) : Nat -> St -> Option Ann := fun id st => match id with
 | 0 => some ⟨Nat, fun i => [(20, .int .i64 (L zbu i))], fun i => [], [1, 18, 19], [1], fun i => L2 L toLs (L Cf.ls y) i, fun i => L2 L yvt (L Cf.ls y) i⟩
 | 2 => zgj st 20 fun k => some ⟨Nat, fun j => [(37, .int .i64 (L zbu j))], fun j => [], [1, 18, 19, 20, 35, 36], [1], fun j => L2 L toRt (L Ls.rs (L2 L zak (L Cf.ls y) (L Int.toNat k))) j, fun j => L2 L yy0 (L Ls.rs (L2 L zak (L Cf.ls y) (L Int.toNat k))) j⟩
 | 4 => some ⟨Nat, fun i => [(57, .int .i64 (L zbu i))], fun i => [], [55, 56], [], fun i => L2 L toCl (L Cf.cs y) i, fun i => L2 L ytr (L Cf.cs y) i⟩
 | _ => none
theorem zmu {x : Cf} (h : x.ls.all ze1 = false) : ze2 x = false := by unfold ze2; rw [h]; simp
theorem zrs {x : Cf} (h : x.cs.all zf1 = false) : ze2 x = false := by unfold ze2; rw [h]; simp
theorem yiy {x : Ls} (h : 300 < (x.n.length : Int)) : ze1 x = false := by unfold ze1; rw [decide_eq_false (p := x.n.length <= 300) (by omega)]; simp
theorem yix {x : Ls} (h : 12 < (x.rs.length : Int)) : ze1 x = false := by unfold ze1; rw [decide_eq_false (p := x.rs.length <= 12) (by omega)]; simp
theorem yiz {x : Ls} (h : x.rs.all zii = false) : ze1 x = false := by unfold ze1; rw [h]; simp
theorem yiw {x : Ls} (h1 : (x.n.length : Int) <= 300) (h2 : (x.rs.length : Int) <= 12) (h : x.rs.all zii = true) : ze1 x = true := by unfold ze1; rw [h, decide_eq_true (p := x.n.length <= 300) (by omega), decide_eq_true (p := x.rs.length <= 12) (by omega)]; rfl
theorem yj2 {x : Cl} (h : 300 < (x.n.length : Int)) : zf1 x = false := by unfold zf1; rw [decide_eq_false (p := x.n.length <= 300) (by omega)]; simp
theorem yj3 {x : Cl} (h : 12 < (x.es.length : Int)) : zf1 x = false := by unfold zf1; rw [decide_eq_false (p := x.es.length <= 12) (by omega)]; simp
theorem yj1 {x : Cl} (h1 : (x.n.length : Int) <= 300) (h2 : (x.es.length : Int) <= 12) : zf1 x = true := by unfold zf1; rw [decide_eq_true (p := x.n.length <= 300) (by omega), decide_eq_true (p := x.es.length <= 12) (by omega)]; rfl
theorem yiv {x : Rt} (h : 300 < (x.h.length : Int) \/ 300 < (x.p.length : Int) \/ 300 < (x.c.length : Int)) : zii x = false := by
 unfold zii
 rcases h with h | h | h
 · rw [decide_eq_false (p := x.h.length <= 300) (by omega)]; simp
 · rw [decide_eq_false (p := x.p.length <= 300) (by omega)]; simp
 · rw [decide_eq_false (p := x.c.length <= 300) (by omega)]; simp
theorem yiu {x : Rt} (h1 : (x.h.length : Int) <= 300) (h2 : (x.p.length : Int) <= 300) (h3 : (x.c.length : Int) <= 300) : zii x = true := by
 unfold zii; rw [decide_eq_true (p := x.h.length <= 300) (by omega), decide_eq_true (p := x.p.length <= 300) (by omega), decide_eq_true (p := x.c.length <= 300) (by omega)]; rfl
theorem yj0 {x : Cf} (h1 : (x.ls.length : Int) <= 12) (h2 : (x.cs.length : Int) <= 12) (h3 : x.ls.all ze1 = true) (h4 : x.cs.all zf1 = true) : ze2 x = true := by
 unfold ze2; rw [h3, h4, decide_eq_true (p := x.ls.length <= 12) (by omega), decide_eq_true (p := x.cs.length <= 12) (by omega)]; rfl
def zyl (x : Cf) : Prop := True
theorem zz2 : zay Tryz.prog (prS 11 zh2 zbv ze2 zyl std) := by
 intro xs p r h hp
 dsimp only [prS] at h |-
 split at h <;> cases h
 try simp only [L2, L3, std] at hp |-
 rename_i x
 refine zt2 ze4 hp.1 ?_
 have hp := hp.2
 show za7 _ _ _ (.bool (ze2 (rdG cfV x)))
 have hp : zyl (rdG cfV x) := hp
 generalize rdG cfV x = y at hp |-
 refine za8 (T := tt) (S := noS) (lo := fun L => ytc L y) (lb := noA) 5 (fn := Tryz.f11) (xs := fun L => [.agg [.int .u64 (L Cf.v y), zh5 L (L Cf.ls y), zg8 L (L Cf.cs y)]]) rfl rfl (by kernel_rfl) (by kernel_rfl) rfl zaa (zcc _) (by kernel_rfl) ?_
 intro L P' Q' hL hP hQ
 (cbv; try simp only [syT, true_and, and_true])
 refine ⟨fun h => ?_, fun h => ⟨⟨0, ?_⟩, fun i hi => ?_⟩⟩
 · (subst hL; subst hQ; simp only [L2, L3, std] at *; try simp only [syS, reduceCtorEq, Int.reduceToNat, Int.reduceAdd, Int.reduceSub] at *)
   simp only [ze2]
   have e1 : zb1 y.ls = y.ls.length := rfl
   have e2 : zb1 y.cs = y.cs.length := rfl
   by_cases h1 : y.ls.length <= 12
   · rw [decide_eq_false (p := y.cs.length <= 12) (by omega)]; simp
   · rw [decide_eq_false h1]; simp
 · (cbv; try simp only [syT, true_and, and_true])
   (subst hL; subst hQ; simp only [L2, L3, std] at *; try simp only [syS, reduceCtorEq, Int.reduceToNat, Int.reduceAdd, Int.reduceSub] at *)
   exact ziy _ _ _
 · cbv at hi
   (cbv; try simp only [syT, true_and, and_true])
   have e1 : zb1 y.ls = y.ls.length := rfl
   have e2 : zb1 y.cs = y.cs.length := rfl
   refine ⟨fun hlt => ⟨?_, fun h1 => ?_, fun h1 => ⟨fun h2 => ?_, fun h2 => ⟨⟨0, ?_⟩, fun j hj => ?_⟩⟩⟩, fun hge => ⟨⟨0, ?_⟩, fun k hk => ?_⟩⟩
   · (subst hL; subst hQ; simp only [L2, L3, std] at *; try simp only [syS, reduceCtorEq, Int.reduceToNat, Int.reduceAdd, Int.reduceSub] at *)
     omega
   · (subst hL; subst hQ; simp only [L2, L3, std] at *; try simp only [syS, reduceCtorEq, Int.reduceToNat, Int.reduceAdd, Int.reduceSub] at *)
     exact (zmu (zdy (V := lsV) (i := i) (by omega) (yiy h1))).symm
   · (subst hL; subst hQ; simp only [L2, L3, std] at *; try simp only [syS, reduceCtorEq, Int.reduceToNat, Int.reduceAdd, Int.reduceSub] at *)
     exact (zmu (zdy (V := lsV) (i := i) (by omega) (yix h2))).symm
   · (cbv; try simp only [syT, true_and, and_true])
     (subst hL; subst hQ; simp only [L2, L3, std] at *; try simp only [syS, reduceCtorEq, Int.reduceToNat, Int.reduceAdd, Int.reduceSub] at *)
     exact ziy _ _ _
   · cbv at hj
     (cbv; try simp only [syT, true_and, and_true])
     have e3 : ∀ z : Ls, zb1 z.rs = z.rs.length := fun _ => rfl
     refine ⟨fun hlt2 => ⟨?_, fun h3 => ?_, fun h3 => ⟨j + 1, ?_⟩⟩, fun hge2 => ⟨i + 1, ?_⟩⟩
     · (subst hL; subst hQ; simp only [L2, L3, std] at *; try simp only [syS, reduceCtorEq, Int.reduceToNat, Int.reduceAdd, Int.reduceSub] at *)
       omega
     · (subst hL; subst hQ; simp only [L2, L3, std] at *; try simp only [syS, reduceCtorEq, Int.reduceToNat, Int.reduceAdd, Int.reduceSub] at *)
       have e4 := e3 (zak y.ls i)
       exact (zmu (zdy (V := lsV) (i := i) (by omega) (yiz (zdy (V := rtV) (i := j) (by show j < (zak y.ls i).rs.length; omega) (yiv (by
         show 300 < ((zfc (zak y.ls i).rs j).h.length : Int) \/ 300 < ((zfc (zak y.ls i).rs j).p.length : Int) \/ 300 < ((zfc (zak y.ls i).rs j).c.length : Int)
         omega)))))).symm
     · (cbv; try simp only [syT, true_and, and_true])
       (subst hL; subst hQ; simp only [L2, L3, std] at *; try simp only [syS, reduceCtorEq, Int.reduceToNat, Int.reduceAdd, Int.reduceSub] at *)
       have e4 := e3 (zak y.ls i)
       refine ⟨by omega, zdw hj (by omega) (yiu ?_ ?_ ?_), ?_⟩
       · show ((zfc (zak y.ls i).rs j).h.length : Int) <= 300
         omega
       · show ((zfc (zak y.ls i).rs j).p.length : Int) <= 300
         omega
       · show ((zfc (zak y.ls i).rs j).c.length : Int) <= 300
         omega
       · show (zak y.ls i).rs.length - (j + 1) < (zak y.ls i).rs.length - j
         omega
     · (cbv; try simp only [syT, true_and, and_true])
       (subst hL; subst hQ; simp only [L2, L3, std] at *; try simp only [syS, reduceCtorEq, Int.reduceToNat, Int.reduceAdd, Int.reduceSub] at *)
       have e4 := e3 (zak y.ls i)
       refine ⟨by omega, zdw hi (by omega) (yiw h1 (by show ((zak y.ls i).rs.length : Int) <= 12; omega) (zf8 hj (by show (zak y.ls i).rs.length <= j; omega))), ?_⟩
       show y.ls.length - (i + 1) < y.ls.length - i
       omega
   · (cbv; try simp only [syT, true_and, and_true])
     (subst hL; subst hQ; simp only [L2, L3, std] at *; try simp only [syS, reduceCtorEq, Int.reduceToNat, Int.reduceAdd, Int.reduceSub] at *)
     exact ziy _ _ _
   · cbv at hk
     (cbv; try simp only [syT, true_and, and_true])
     have e3 : ∀ z : Cl, zb1 z.es = z.es.length := fun _ => rfl
     refine ⟨fun hlt2 => ⟨?_, fun h3 => ?_, fun h3 => ⟨fun h4 => ?_, fun h4 => ⟨k + 1, ?_⟩⟩⟩, fun hge2 => ?_⟩
     · (subst hL; subst hQ; simp only [L2, L3, std] at *; try simp only [syS, reduceCtorEq, Int.reduceToNat, Int.reduceAdd, Int.reduceSub] at *)
       omega
     · (subst hL; subst hQ; simp only [L2, L3, std] at *; try simp only [syS, reduceCtorEq, Int.reduceToNat, Int.reduceAdd, Int.reduceSub] at *)
       exact (zrs (zdy (V := clV) (i := k) (by omega) (yj2 h3))).symm
     · (subst hL; subst hQ; simp only [L2, L3, std] at *; try simp only [syS, reduceCtorEq, Int.reduceToNat, Int.reduceAdd, Int.reduceSub] at *)
       exact (zrs (zdy (V := clV) (i := k) (by omega) (yj3 h4))).symm
     · (cbv; try simp only [syT, true_and, and_true])
       (subst hL; subst hQ; simp only [L2, L3, std] at *; try simp only [syS, reduceCtorEq, Int.reduceToNat, Int.reduceAdd, Int.reduceSub] at *)
       refine ⟨by omega, zdw hk (by omega) (yj1 h3 h4), ?_⟩
       show y.cs.length - (k + 1) < y.cs.length - k
       omega
     · (subst hL; subst hQ; simp only [L2, L3, std] at *; try simp only [syS, reduceCtorEq, Int.reduceToNat, Int.reduceAdd, Int.reduceSub] at *)
       exact (yj0 (by omega) (by omega) (zf8 hi (by omega)) (zf8 hk (by omega))).symm
def zz3 (x : Cf) : Prop := zi8 x.ls /\ zi8 x.cs /\ (∀ l ∈ x.ls, zi8 l.rs) /\ ∀ c ∈ x.cs, zi8 c.es
def leW {α : Type} (l : List α) (i : Nat) : Prop := i <= l.length
def leLs (l : List Ls) (i : Nat) : Prop := leW l i
def leRt (l : List Rt) (i : Nat) : Prop := leW l i
def leCl (l : List Cl) (i : Nat) : Prop := leW l i
def leEp (l : List Ep) (i : Nat) : Prop := leW l i
def yy1 (l : List Ep) (i : Nat) : Nat := yv9 l i
def ywa (L : za9) : zbn := (15, fun xs => match xs with
 | [x] => some (L zh2 x /\ L zz3 (L zbv x), .agg [.int .u64 (L Cf.v (L zbv x)), zh5 L (L Cf.ls (L zbv x)), zg8 L (L Cf.cs (L zbv x))])
 | _ => none)
def cfTo (L : za9) (y : Cf) : Nat -> St -> Option Ann := fun id st => match id with
 | 0 => some ⟨Nat, fun i => [(20, .int .i64 (L zbu i)), (3, .ref 3 0)], fun i => [(3, .box 56 [.int .u64 (L Cf.v y), .sl 901 7 0 i, .nils]), (901, .row 128 7 i (fun q => lsC L (L (L zak (L Cf.ls y)) q)))], [1, 2, 18, 19], [1, 2], fun i => L2 L leLs (L Cf.ls y) i, fun i => L2 L yvt (L Cf.ls y) i⟩
 | 2 => zgj st 20 fun k => some ⟨Nat, fun j => [(32, .int .i64 (L zbu j)), (6, .ref 6 0)],
     fun j => [(6, .box 128 [.str (L Ls.n (L2 L zak (L Cf.ls y) (L Int.toNat k))), plC L (L Ls.pl (L2 L zak (L Cf.ls y) (L Int.toNat k))) 0, plC L (L Ls.pl (L2 L zak (L Cf.ls y) (L Int.toNat k))) 1, plC L (L Ls.pl (L2 L zak (L Cf.ls y) (L Int.toNat k))) 2, plC L (L Ls.pl (L2 L zak (L Cf.ls y) (L Int.toNat k))) 3, plC L (L Ls.pl (L2 L zak (L Cf.ls y) (L Int.toNat k))) 4, .sl 902 4 0 j]),
       (902, .row 129 4 j (fun q => rtC L (L (L zfc (L Ls.rs (L2 L zak (L Cf.ls y) (L Int.toNat k)))) q)))], [1, 2, 3, 18, 19, 20, 30, 31], [1, 2, 3, 901], fun j => L2 L leRt (L Ls.rs (L2 L zak (L Cf.ls y) (L Int.toNat k))) j, fun j => L2 L yy0 (L Ls.rs (L2 L zak (L Cf.ls y) (L Int.toNat k))) j⟩
 | 4 => some ⟨Nat, fun i => [(53, .int .i64 (L zbu i)), (3, .ref 3 0)], fun i => [(3, .box 56 [.int .u64 (L Cf.v y), .sl 905 7 0 (L zb1 (L Cf.ls y)), .sl 903 2 0 i]), (905, .row 128 7 (L zb1 (L Cf.ls y)) (fun q => lsC L (L (L zak (L Cf.ls y)) q))), (903, .row 117 2 i (fun q => clC L (L (L zam (L Cf.cs y)) q)))], [2, 51, 52], [2], fun i => L2 L leCl (L Cf.cs y) i, fun i => L2 L ytr (L Cf.cs y) i⟩
 | 6 => zgj st 53 fun k => some ⟨Nat, fun j => [(63, .int .i64 (L zbu j)), (11, .ref 11 0)],
     fun j => [(11, .box 117 [.str (L Cl.n (L2 L zam (L Cf.cs y) (L Int.toNat k))), .sl 904 6 0 j]),
       (904, .row 120 6 j (fun q => epC L (L (L zex (L Cl.es (L2 L zam (L Cf.cs y) (L Int.toNat k)))) q)))], [2, 3, 51, 52, 53, 61, 62], [2, 3, 903, 905], fun j => L2 L leEp (L Cl.es (L2 L zam (L Cf.cs y) (L Int.toNat k))) j, fun j => L2 L yy1 (L Cl.es (L2 L zam (L Cf.cs y) (L Int.toNat k))) j⟩
 | _ => none
theorem zp3 {y : Cf} (hp : zz3 y) {i : Nat} (hi : i < y.ls.length) : (zak y.ls i).rs.length <= 1000000 := hp.2.2.1 _ (by rw [zak, zbq (V := lsV) hi]; exact List.getElem_mem _)
theorem zp4 {y : Cf} (hp : zz3 y) {i : Nat} (hi : i < y.cs.length) : (zam y.cs i).es.length <= 1000000 := hp.2.2.2 _ (by rw [zam, zbq (V := clV) hi]; exact List.getElem_mem _)
theorem ym7 : zay Tryz.prog (ywa std) := by
 intro xs p r h hp
 dsimp only [ywa] at h |-
 split at h <;> cases h
 try simp only [L2, L3, std] at hp |-
 rename_i x
 obtain ⟨ho, hp⟩ := hp
 refine zt2 ze4 ho ?_
 have hp : zz3 (zbv x) := hp
 show za7 _ _ [.agg [.int .u64 (zbv x).v, zh5 std (zbv x).ls, zg8 std (zbv x).cs]] _
 generalize zbv x = y at hp |-
 refine za8 (T := tt) (S := noS) (lo := fun L => cfTo L y) (lb := noA) 5 (fn := Tryz.f15) (xs := fun L => [.agg [.int .u64 (L Cf.v y), zh5 L (L Cf.ls y), zg8 L (L Cf.cs y)]]) rfl rfl (by kernel_rfl) (by kernel_rfl) rfl zaa (zcc _) (by kernel_rfl) ?_
 intro L P' Q' hL hP hQ
 (cbv; try simp only [syT, true_and, and_true])
 refine ⟨⟨0, ?_⟩, fun i hi => ?_⟩
 · (cbv; try simp only [syT, true_and, and_true])
   (subst hL; subst hQ; simp only [L2, L3, std] at *; try simp only [syS, reduceCtorEq, Int.reduceToNat, Int.reduceAdd, Int.reduceSub] at *)
   exact Nat.zero_le _
 · cbv at hi
   (cbv; try simp only [syT, true_and, and_true])
   have e1 : zb1 y.ls = y.ls.length := rfl
   have e2 : zb1 y.cs = y.cs.length := rfl
   refine ⟨fun hlt => ⟨?_, ⟨⟨0, ?_⟩, fun j hj => ?_⟩⟩, fun hge => ⟨⟨0, ?_⟩, fun k hk => ?_⟩⟩
   · (subst hL; subst hQ; simp only [L2, L3, std] at *; try simp only [syS, reduceCtorEq, Int.reduceToNat, Int.reduceAdd, Int.reduceSub] at *)
     omega
   · (cbv; try simp only [syT, true_and, and_true])
     (subst hL; subst hQ; simp only [L2, L3, std] at *; try simp only [syS, reduceCtorEq, Int.reduceToNat, Int.reduceAdd, Int.reduceSub] at *)
     exact Nat.zero_le _
   · cbv at hj
     (cbv; try simp only [syT, true_and, and_true])
     have e3 : ∀ z : Ls, zb1 z.rs = z.rs.length := fun _ => rfl
     refine ⟨fun hlt2 => ⟨?_, ?_, ⟨j + 1, ?_⟩⟩, fun hge2 => ⟨?_, ⟨i + 1, ?_⟩⟩⟩
     · (subst hL; subst hQ; simp only [L2, L3, std] at *; try simp only [syS, reduceCtorEq, Int.reduceToNat, Int.reduceAdd, Int.reduceSub] at *)
       omega
     · (subst hL; subst hQ; simp only [L2, L3, std] at *; try simp only [syS, reduceCtorEq, Int.reduceToNat, Int.reduceAdd, Int.reduceSub] at *)
       have e4 := e3 (zak y.ls i)
       have hm := zp3 hp (i := i) (by omega)
       omega
     · (cbv; try simp only [syT, true_and, and_true])
       (subst hL; subst hQ; simp only [L2, L3, std] at *; try simp only [syS, reduceCtorEq, Int.reduceToNat, Int.reduceAdd, Int.reduceSub] at *)
       have e4 := e3 (zak y.ls i)
       have hm := zp3 hp (i := i) (by omega)
       refine ⟨fun a b ha hb => ?_, by omega, ?_, ?_⟩
       · by_cases h : a < j
         · rw [zel h, show a - j = 0 by omega, Nat.zero_mul, Nat.zero_add]
           match b, hb with
           | 0, _ => rfl
           | 1, _ => rfl
           | 2, _ => rfl
           | 3, _ => rfl
         · obtain rfl : a = j := by omega
           rw [zf7 (by omega), Nat.sub_self, Nat.zero_mul, Nat.zero_add]
           match b, hb with
           | 0, _ => rfl
           | 1, _ => rfl
           | 2, _ => rfl
           | 3, _ => rfl
       · show j + 1 <= (zak y.ls i).rs.length
         omega
       · show (zak y.ls i).rs.length - (j + 1) + 1 <= (zak y.ls i).rs.length - j
         omega
     · (subst hL; subst hQ; simp only [L2, L3, std] at *; try simp only [syS, reduceCtorEq, Int.reduceToNat, Int.reduceAdd, Int.reduceSub] at *)
       have hm := hp.1
       unfold zi8 at hm
       omega
     · (cbv; try simp only [syT, true_and, and_true])
       (subst hL; subst hQ; simp only [L2, L3, std] at *; try simp only [syS, reduceCtorEq, Int.reduceToNat, Int.reduceAdd, Int.reduceSub] at *)
       have e4 := e3 (zak y.ls i)
       have hj' : j <= (zak y.ls i).rs.length := hj
       have hm := hp.1
       unfold zi8 at hm
       refine ⟨fun a b ha hb => ?_, by omega, ?_, ?_⟩
       · by_cases h : a < i
         · rw [zel h, show a - i = 0 by omega, Nat.zero_mul, Nat.zero_add]
           match b, hb with
           | 0, _ => rfl
           | 1, _ => rfl
           | 2, _ => rfl
           | 3, _ => rfl
           | 4, _ => rfl
           | 5, _ => rfl
           | 6, _ => rfl
         · obtain rfl : a = i := by omega
           rw [zf7 (by omega), Nat.sub_self, Nat.zero_mul, Nat.zero_add]
           match b, hb with
           | 0, _ => rfl
           | 1, _ => rfl
           | 2, _ => rfl
           | 3, _ => rfl
           | 4, _ => rfl
           | 5, _ => rfl
           | 6, _ =>
             show AV.lst 4 j _ = AV.lst 4 (zb1 (zak y.ls a).rs) _
             rw [show j = zb1 (zak y.ls a).rs by omega]
             rfl
       · show i + 1 <= y.ls.length
         omega
       · show y.ls.length - (i + 1) + 1 <= y.ls.length - i
         omega
   · (cbv; try simp only [syT, true_and, and_true])
     (subst hL; subst hQ; simp only [L2, L3, std] at *; try simp only [syS, reduceCtorEq, Int.reduceToNat, Int.reduceAdd, Int.reduceSub] at *)
     have hi' : i <= y.ls.length := hi
     exact ⟨by omega, by omega, Nat.zero_le _⟩
   · cbv at hk
     (cbv; try simp only [syT, true_and, and_true])
     have e3 : ∀ z : Cl, zb1 z.es = z.es.length := fun _ => rfl
     refine ⟨fun hlt => ⟨?_, ⟨⟨0, ?_⟩, fun j hj => ?_⟩⟩, fun hge => ?_⟩
     · (subst hL; subst hQ; simp only [L2, L3, std] at *; try simp only [syS, reduceCtorEq, Int.reduceToNat, Int.reduceAdd, Int.reduceSub] at *)
       omega
     · (cbv; try simp only [syT, true_and, and_true])
       (subst hL; subst hQ; simp only [L2, L3, std] at *; try simp only [syS, reduceCtorEq, Int.reduceToNat, Int.reduceAdd, Int.reduceSub] at *)
       exact Nat.zero_le _
     · cbv at hj
       (cbv; try simp only [syT, true_and, and_true])
       refine ⟨fun hlt2 => ⟨?_, ?_, ⟨j + 1, ?_⟩⟩, fun hge2 => ⟨?_, ⟨k + 1, ?_⟩⟩⟩
       · (subst hL; subst hQ; simp only [L2, L3, std] at *; try simp only [syS, reduceCtorEq, Int.reduceToNat, Int.reduceAdd, Int.reduceSub] at *)
         omega
       · (subst hL; subst hQ; simp only [L2, L3, std] at *; try simp only [syS, reduceCtorEq, Int.reduceToNat, Int.reduceAdd, Int.reduceSub] at *)
         have e4 := e3 (zam y.cs k)
         have hm := zp4 hp (i := k) (by omega)
         omega
       · (cbv; try simp only [syT, true_and, and_true])
         (subst hL; subst hQ; simp only [L2, L3, std] at *; try simp only [syS, reduceCtorEq, Int.reduceToNat, Int.reduceAdd, Int.reduceSub] at *)
         have e4 := e3 (zam y.cs k)
         have hm := zp4 hp (i := k) (by omega)
         refine ⟨fun a b ha hb => ?_, by omega, ?_, ?_⟩
         · by_cases h : a < j
           · rw [zel h, show a - j = 0 by omega, Nat.zero_mul, Nat.zero_add]
             match b, hb with
             | 0, _ => rfl
             | 1, _ => rfl
             | 2, _ => rfl
             | 3, _ => rfl
             | 4, _ => rfl
             | 5, _ => rfl
           · obtain rfl : a = j := by omega
             rw [zf7 (by omega), Nat.sub_self, Nat.zero_mul, Nat.zero_add]
             match b, hb with
             | 0, _ => rfl
             | 1, _ => rfl
             | 2, _ => rfl
             | 3, _ => rfl
             | 4, _ => rfl
             | 5, _ => rfl
         · show j + 1 <= (zam y.cs k).es.length
           omega
         · show (zam y.cs k).es.length - (j + 1) + 1 <= (zam y.cs k).es.length - j
           omega
       · (subst hL; subst hQ; simp only [L2, L3, std] at *; try simp only [syS, reduceCtorEq, Int.reduceToNat, Int.reduceAdd, Int.reduceSub] at *)
         have hm := hp.2.1
         unfold zi8 at hm
         omega
       · (cbv; try simp only [syT, true_and, and_true])
         (subst hL; subst hQ; simp only [L2, L3, std] at *; try simp only [syS, reduceCtorEq, Int.reduceToNat, Int.reduceAdd, Int.reduceSub] at *)
         have e4 := e3 (zam y.cs k)
         have hj' : j <= (zam y.cs k).es.length := hj
         have hm := hp.2.1
         unfold zi8 at hm
         refine ⟨fun a b ha hb => ?_, by omega, ?_, ?_⟩
         · by_cases h : a < k
           · rw [zel h, show a - k = 0 by omega, Nat.zero_mul, Nat.zero_add]
             match b, hb with
             | 0, _ => rfl
             | 1, _ => rfl
           · obtain rfl : a = k := by omega
             rw [zf7 (by omega), Nat.sub_self, Nat.zero_mul, Nat.zero_add]
             match b, hb with
             | 0, _ => rfl
             | 1, _ =>
               show AV.lst 6 j _ = AV.lst 6 (zb1 (zam y.cs a).es) _
               rw [show j = zb1 (zam y.cs a).es by omega]
               rfl
         · show k + 1 <= y.cs.length
           omega
         · show y.cs.length - (k + 1) + 1 <= y.cs.length - k
           omega
     · (subst hL; subst hQ; simp only [L2, L3, std] at *; try simp only [syS, reduceCtorEq, Int.reduceToNat, Int.reduceAdd, Int.reduceSub] at *)
       have hk' : k <= y.cs.length := hk
       obtain rfl : k = zb1 y.cs := by omega
       show fits1 (.agg [.lst 7 (zb1 y.ls) (fun i => lsC std (zak y.ls i)), .lst 2 (zb1 y.cs) (fun i => clC std (zam y.cs i))]) _
       rw [zdu, zdu]
       exact ⟨⟨rfl, fun _ _ _ _ => rfl⟩, ⟨rfl, fun _ _ _ _ => rfl⟩, trivial⟩
def yc4 (L : za9) : zbn := (71, fun xs => match xs with | [.str s] => some (True, .agg [.int .i64 2, .int .u64 0, .str s, .nils]) | _ => none)
theorem yc5 : zay Tryz.prog (yc4 std) := by
 intro xs p r h hp
 dsimp only [yc4] at h |-
 split at h <;> cases h
 try simp only [L2, L3, std] at hp |-
 refine za5 (T := tt) (S := noS) (lo := noA) (lb := noA) 5 (fn := Tryz.f71) rfl rfl (by kernel_rfl) (by kernel_rfl) rfl zaa (zcc _) (by kernel_rfl) ?_
 (intro L P1 Q1 hL hP hQ; cbv; subst hL; simp only [L2, L3, std, syT]; subst hQ)
 (simp only [syS, reduceCtorEq, Int.reduceToNat, Int.reduceAdd, Int.reduceSub])
 exact trivial
def ych (L : za9) : zbn := (72, fun xs => match xs with | [.int .u64 n] => some (True, .agg [.int .i64 1, .int .u64 n, .str [], .nils]) | _ => none)
theorem yci : zay Tryz.prog (ych std) := by
 intro xs p r h hp
 dsimp only [ych] at h |-
 split at h <;> cases h
 try simp only [L2, L3, std] at hp |-
 refine za5 (T := tt) (S := noS) (lo := noA) (lb := noA) 5 (fn := Tryz.f72) rfl rfl (by kernel_rfl) (by kernel_rfl) rfl zaa (zcc _) (by kernel_rfl) ?_
 (intro L P1 Q1 hL hP hQ; cbv; subst hL; simp only [L2, L3, std, syT]; subst hQ)
 (simp only [syS, reduceCtorEq, Int.reduceToNat, Int.reduceAdd, Int.reduceSub])
 exact trivial
def yqw (L : za9) (y : Rt) : Nat -> AV
 | 0 => .int .i64 3
 | 1 => .int .u64 0
 | 2 => .str []
 | _ => .lst 4 4 (fun i j => zby .dead [.int .i64 2, .int .u64 0, .str (L Rt.h y), .nils, .int .i64 2, .int .u64 0, .str (L Rt.p y), .nils, .int .i64 2, .int .u64 0, .str (L Rt.c y), .nils, .int .i64 1, .int .u64 (L Rt.i y), .str [], .nils] (i * 4 + j))
def yqx (L : za9) (y : Ep) : Nat -> AV
 | 0 => .int .i64 3
 | 1 => .int .u64 0
 | 2 => .str []
 | _ => .lst 4 2 (fun i j => zby .dead [.int .i64 2, .int .u64 0, .str (L plB (L Ep.pl y)), .nils, .int .i64 1, .int .u64 (L (fun w : Int => w % 18446744073709551616) (L Ep.w y)), .str [], .nils] (i * 4 + j))
def ymu (L : za9) (y : Ls) : Nat -> AV
 | 0 => .int .i64 3
 | 1 => .int .u64 0
 | 2 => .str []
 | _ => .lst 4 3 (fun i j => zby .dead [.int .i64 2, .int .u64 0, .str (L Ls.n y), .nils, .int .i64 2, .int .u64 0, .str (L plB (L Ls.pl y)), .nils, .int .i64 3, .int .u64 0, .str [], .lst 4 (L zb1 (L Ls.rs y)) (fun q => yqw L (L (L zfc (L Ls.rs y)) q))] (i * 4 + j))
def yqy (L : za9) (y : Cl) : Nat -> AV
 | 0 => .int .i64 3
 | 1 => .int .u64 0
 | 2 => .str []
 | _ => .lst 4 2 (fun i j => zby .dead [.int .i64 2, .int .u64 0, .str (L Cl.n y), .nils, .int .i64 3, .int .u64 0, .str [], .lst 4 (L zb1 (L Cl.es y)) (fun q => yqx L (L (L zex (L Cl.es y)) q))] (i * 4 + j))
def yqz (L : za9) (y : Cf) : Nat -> Nat -> AV := fun i j => zby .dead [.int .i64 1, .int .u64 (L Cf.v y), .str [], .nils, .int .i64 3, .int .u64 0, .str [], .lst 4 (L zb1 (L Cf.ls y)) (fun q => ymu L (L (L zak (L Cf.ls y)) q)),
 .int .i64 3, .int .u64 0, .str [], .lst 4 (L zb1 (L Cf.cs y)) (fun q => yqy L (L (L zam (L Cf.cs y)) q))] (i * 4 + j)
def okPl (x : Cf) : Prop := zz3 x /\ (∀ l ∈ x.ls, zsz l.pl) /\ ∀ c ∈ x.cs, ∀ e ∈ c.es, zsz e.pl
def yc1 (L : za9) : zbn := (42, fun xs => match xs with
 | [x] => some (L zh2 x /\ L okPl (L zbv x), .agg [.int .i64 3, .int .u64 0, .str [], .lst 4 3 (yqz L (L zbv x))])
 | _ => none)
def rvA (L : za9) (y : Cf) : Nat -> St -> Option Ann := fun id st => match id with
 | 0 => some ⟨Nat, fun i => [(20, .int .i64 (L zbu i)), (3, .ref 3 0)], fun i => [(3, .box 124 [.int .i64 3, .int .u64 0, .str [], .sl 901 4 0 i]), (901, .row 124 4 i (fun q => ymu L (L (L zak (L Cf.ls y)) q)))], [1, 2, 4, 18, 19], [1, 2, 4], fun i => L2 L leLs (L Cf.ls y) i, fun i => L2 L yvt (L Cf.ls y) i⟩
 | 2 => zgj st 20 fun k => some ⟨Nat, fun j => [(28, .int .i64 (L zbu j)), (7, .ref 7 0)],
     fun j => [(7, .box 124 [.int .i64 3, .int .u64 0, .str [], .sl 902 4 0 j]), (902, .row 124 4 j (fun q => yqw L (L (L zfc (L Ls.rs (L2 L zak (L Cf.ls y) (L Int.toNat k)))) q)))],
     [1, 2, 3, 4, 6, 18, 19, 20, 26, 27], [1, 2, 3, 4, 6, 901], fun j => L2 L leRt (L Ls.rs (L2 L zak (L Cf.ls y) (L Int.toNat k))) j, fun j => L2 L yy0 (L Ls.rs (L2 L zak (L Cf.ls y) (L Int.toNat k))) j⟩
 | 4 => some ⟨Nat, fun i => [(71, .int .i64 (L zbu i)), (4, .ref 4 0), (3, .ref 3 0)], fun i => [(3, .box 124 [.int .i64 3, .int .u64 0, .str [], .sl 905 4 0 (L zb1 (L Cf.ls y))]), (905, .row 124 4 (L zb1 (L Cf.ls y)) (fun q => ymu L (L (L zak (L Cf.ls y)) q))),
     (4, .box 124 [.int .i64 3, .int .u64 0, .str [], .sl 903 4 0 i]), (903, .row 124 4 i (fun q => yqy L (L (L zam (L Cf.cs y)) q)))], [1, 2, 69, 70], [1, 2], fun i => L2 L leCl (L Cf.cs y) i, fun i => L2 L ytr (L Cf.cs y) i⟩
 | 6 => zgj st 71 fun k => some ⟨Nat, fun j => [(79, .int .i64 (L zbu j)), (12, .ref 12 0)],
     fun j => [(12, .box 124 [.int .i64 3, .int .u64 0, .str [], .sl 904 4 0 j]), (904, .row 124 4 j (fun q => yqx L (L (L zex (L Cl.es (L2 L zam (L Cf.cs y) (L Int.toNat k)))) q)))],
     [1, 2, 3, 4, 11, 69, 70, 71, 77, 78], [1, 2, 3, 4, 11, 903, 905], fun j => L2 L leEp (L Cl.es (L2 L zam (L Cf.cs y) (L Int.toNat k))) j, fun j => L2 L yy1 (L Cl.es (L2 L zam (L Cf.cs y) (L Int.toNat k))) j⟩
 | _ => none
theorem yc2 : zay Tryz.prog (yc1 std) := by
 intro xs p r h hp
 dsimp only [yc1] at h |-
 split at h <;> cases h
 try simp only [L2, L3, std] at hp |-
 rename_i x
 obtain ⟨ho, hp⟩ := hp
 refine zt2 ze4 ho ?_
 have hp : okPl (zbv x) := hp
 show za7 _ _ [.agg [.int .u64 (zbv x).v, zh5 std (zbv x).ls, zg8 std (zbv x).cs]] (.agg [.int .i64 3, .int .u64 0, .str [], .lst 4 3 (yqz std (zbv x))])
 generalize zbv x = y at hp |-
 refine za8 (T := tt) (S := fun L => zai [yc4 L, ych L, zpg L]) (lo := fun L => rvA L y) (lb := noA) 5 (fn := Tryz.f42) (xs := fun L => [.agg [.int .u64 (L Cf.v y), zh5 L (L Cf.ls y), zg8 L (L Cf.cs y)]]) rfl rfl (by kernel_rfl) (by kernel_rfl) rfl zaa (za1 ⟨yc5, yci, ztp, trivial⟩) (by kernel_rfl) ?_
 intro L P' Q' hL hP hQ
 (cbv; try simp only [syT, true_and, and_true])
 refine ⟨⟨0, ?_⟩, fun i hi => ?_⟩
 · (cbv; try simp only [syT, true_and, and_true])
   (subst hL; subst hQ; simp only [L2, L3, std] at *; try simp only [syS, reduceCtorEq, Int.reduceToNat, Int.reduceAdd, Int.reduceSub] at *)
   exact Nat.zero_le _
 · cbv at hi
   (cbv; try simp only [syT, true_and, and_true])
   have e1 : zb1 y.ls = y.ls.length := rfl
   have e2 : zb1 y.cs = y.cs.length := rfl
   refine ⟨fun hlt => ⟨?_, ⟨⟨0, ?_⟩, fun j hj => ?_⟩⟩, fun hge => ⟨⟨0, ?_⟩, fun k hk => ?_⟩⟩
   · (subst hL; subst hQ; simp only [L2, L3, std] at *; try simp only [syS, reduceCtorEq, Int.reduceToNat, Int.reduceAdd, Int.reduceSub] at *)
     omega
   · (cbv; try simp only [syT, true_and, and_true])
     (subst hL; subst hQ; simp only [L2, L3, std] at *; try simp only [syS, reduceCtorEq, Int.reduceToNat, Int.reduceAdd, Int.reduceSub] at *)
     exact Nat.zero_le _
   · cbv at hj
     (cbv; try simp only [syT, true_and, and_true])
     have e3 : ∀ z : Ls, zb1 z.rs = z.rs.length := fun _ => rfl
     refine ⟨fun hlt2 => ⟨?_, ?_, ⟨j + 1, ?_⟩⟩, fun hge2 => ⟨?_, ?_, ⟨i + 1, ?_⟩⟩⟩
     · (subst hL; subst hQ; simp only [L2, L3, std] at *; try simp only [syS, reduceCtorEq, Int.reduceToNat, Int.reduceAdd, Int.reduceSub] at *)
       omega
     · (subst hL; subst hQ; simp only [L2, L3, std] at *; try simp only [syS, reduceCtorEq, Int.reduceToNat, Int.reduceAdd, Int.reduceSub] at *)
       have e4 := e3 (zak y.ls i)
       have hm := zp3 hp.1 (i := i) (by omega)
       omega
     · (cbv; try simp only [syT, true_and, and_true])
       (subst hL; subst hQ; simp only [L2, L3, std] at *; try simp only [syS, reduceCtorEq, Int.reduceToNat, Int.reduceAdd, Int.reduceSub] at *)
       have e4 := e3 (zak y.ls i)
       have hm := zp3 hp.1 (i := i) (by omega)
       refine ⟨fun a b ha hb => ?_, by omega, ?_, ?_⟩
       · by_cases h : a < j
         · rw [zel h, show a - j = 0 by omega, Nat.zero_mul, Nat.zero_add]
           match b, hb with
           | 0, _ => rfl
           | 1, _ => rfl
           | 2, _ => rfl
           | 3, _ => rfl
         · obtain rfl : a = j := by omega
           rw [zf7 (by omega), Nat.sub_self, Nat.zero_mul, Nat.zero_add]
           match b, hb with
           | 0, _ => rfl
           | 1, _ => rfl
           | 2, _ => rfl
           | 3, _ => rfl
       · show j + 1 <= (zak y.ls i).rs.length
         omega
       · show (zak y.ls i).rs.length - (j + 1) + 1 <= (zak y.ls i).rs.length - j
         omega
     · (subst hL; subst hQ; simp only [L2, L3, std] at *; try simp only [syS, reduceCtorEq, Int.reduceToNat, Int.reduceAdd, Int.reduceSub] at *)
       exact hp.2.1 _ (by rw [zak, zbq (V := lsV) (by omega)]; exact List.getElem_mem _)
     · (subst hL; subst hQ; simp only [L2, L3, std] at *; try simp only [syS, reduceCtorEq, Int.reduceToNat, Int.reduceAdd, Int.reduceSub] at *)
       have hm := hp.1.1
       unfold zi8 at hm
       omega
     · (cbv; try simp only [syT, true_and, and_true])
       (subst hL; subst hQ; simp only [L2, L3, std] at *; try simp only [syS, reduceCtorEq, Int.reduceToNat, Int.reduceAdd, Int.reduceSub] at *)
       have e4 := e3 (zak y.ls i)
       have hj' : j <= (zak y.ls i).rs.length := hj
       have hm := hp.1.1
       unfold zi8 at hm
       refine ⟨fun a b ha hb => ?_, by omega, ?_, ?_⟩
       · by_cases h : a < i
         · rw [zel h, show a - i = 0 by omega, Nat.zero_mul, Nat.zero_add]
           match b, hb with
           | 0, _ => rfl
           | 1, _ => rfl
           | 2, _ => rfl
           | 3, _ => rfl
         · obtain rfl : a = i := by omega
           rw [zf7 (by omega), Nat.sub_self, Nat.zero_mul, Nat.zero_add]
           obtain rfl : j = zb1 (zak y.ls a).rs := by omega
           match b, hb with
           | 0, _ => rfl
           | 1, _ => rfl
           | 2, _ => rfl
           | 3, _ => rfl
       · show i + 1 <= y.ls.length
         omega
       · show y.ls.length - (i + 1) + 1 <= y.ls.length - i
         omega
   · (cbv; try simp only [syT, true_and, and_true])
     (subst hL; subst hQ; simp only [L2, L3, std] at *; try simp only [syS, reduceCtorEq, Int.reduceToNat, Int.reduceAdd, Int.reduceSub] at *)
     have hi' : i <= y.ls.length := hi
     exact ⟨by omega, by omega, Nat.zero_le _⟩
   · cbv at hk
     (cbv; try simp only [syT, true_and, and_true])
     have e3 : ∀ z : Cl, zb1 z.es = z.es.length := fun _ => rfl
     refine ⟨fun hlt => ⟨?_, ⟨⟨0, ?_⟩, fun j hj => ?_⟩⟩, fun hge => ?_⟩
     · (subst hL; subst hQ; simp only [L2, L3, std] at *; try simp only [syS, reduceCtorEq, Int.reduceToNat, Int.reduceAdd, Int.reduceSub] at *)
       omega
     · (cbv; try simp only [syT, true_and, and_true])
       (subst hL; subst hQ; simp only [L2, L3, std] at *; try simp only [syS, reduceCtorEq, Int.reduceToNat, Int.reduceAdd, Int.reduceSub] at *)
       exact Nat.zero_le _
     · cbv at hj
       (cbv; try simp only [syT, true_and, and_true])
       refine ⟨fun hlt2 => ⟨?_, ?_, ?_, ⟨j + 1, ?_⟩⟩, fun hge2 => ⟨?_, ⟨k + 1, ?_⟩⟩⟩
       · (subst hL; subst hQ; simp only [L2, L3, std] at *; try simp only [syS, reduceCtorEq, Int.reduceToNat, Int.reduceAdd, Int.reduceSub] at *)
         omega
       · (subst hL; subst hQ; simp only [L2, L3, std] at *; try simp only [syS, reduceCtorEq, Int.reduceToNat, Int.reduceAdd, Int.reduceSub] at *)
         have e4 := e3 (zam y.cs k)
         exact hp.2.2 (zam y.cs k) (by rw [zam, zbq (V := clV) (by omega)]; exact List.getElem_mem _) (zex (zam y.cs k).es j) (by rw [zex, zbq (V := epV) (by omega)]; exact List.getElem_mem _)
       · (subst hL; subst hQ; simp only [L2, L3, std] at *; try simp only [syS, reduceCtorEq, Int.reduceToNat, Int.reduceAdd, Int.reduceSub] at *)
         have e4 := e3 (zam y.cs k)
         have hm := zp4 hp.1 (i := k) (by omega)
         omega
       · (cbv; try simp only [syT, true_and, and_true])
         (subst hL; subst hQ; simp only [L2, L3, std] at *; try simp only [syS, reduceCtorEq, Int.reduceToNat, Int.reduceAdd, Int.reduceSub] at *)
         have e4 := e3 (zam y.cs k)
         have hm := zp4 hp.1 (i := k) (by omega)
         refine ⟨fun a b ha hb => ?_, by omega, ?_, ?_⟩
         · by_cases h : a < j
           · rw [zel h, show a - j = 0 by omega, Nat.zero_mul, Nat.zero_add]
             match b, hb with
             | 0, _ => rfl
             | 1, _ => rfl
             | 2, _ => rfl
             | 3, _ => rfl
           · obtain rfl : a = j := by omega
             rw [zf7 (by omega), Nat.sub_self, Nat.zero_mul, Nat.zero_add]
             match b, hb with
             | 0, _ => rfl
             | 1, _ => rfl
             | 2, _ => rfl
             | 3, _ => rfl
         · show j + 1 <= (zam y.cs k).es.length
           omega
         · show (zam y.cs k).es.length - (j + 1) + 1 <= (zam y.cs k).es.length - j
           omega
       · (subst hL; subst hQ; simp only [L2, L3, std] at *; try simp only [syS, reduceCtorEq, Int.reduceToNat, Int.reduceAdd, Int.reduceSub] at *)
         have hm := hp.1.2.1
         unfold zi8 at hm
         omega
       · (cbv; try simp only [syT, true_and, and_true])
         (subst hL; subst hQ; simp only [L2, L3, std] at *; try simp only [syS, reduceCtorEq, Int.reduceToNat, Int.reduceAdd, Int.reduceSub] at *)
         have e4 := e3 (zam y.cs k)
         have hj' : j <= (zam y.cs k).es.length := hj
         have hm := hp.1.2.1
         unfold zi8 at hm
         refine ⟨fun a b ha hb => ?_, by omega, ?_, ?_⟩
         · by_cases h : a < k
           · rw [zel h, show a - k = 0 by omega, Nat.zero_mul, Nat.zero_add]
             match b, hb with
             | 0, _ => rfl
             | 1, _ => rfl
             | 2, _ => rfl
             | 3, _ => rfl
           · obtain rfl : a = k := by omega
             rw [zf7 (by omega), Nat.sub_self, Nat.zero_mul, Nat.zero_add]
             obtain rfl : j = zb1 (zam y.cs a).es := by omega
             match b, hb with
             | 0, _ => rfl
             | 1, _ => rfl
             | 2, _ => rfl
             | 3, _ => rfl
         · show k + 1 <= y.cs.length
           omega
         · show y.cs.length - (k + 1) + 1 <= y.cs.length - k
           omega
     · (subst hL; subst hQ; simp only [L2, L3, std] at *; try simp only [syS, reduceCtorEq, Int.reduceToNat, Int.reduceAdd, Int.reduceSub] at *)
       have hk' : k <= y.cs.length := hk
       obtain rfl : k = zb1 y.cs := by omega
       exact fun _ _ _ _ => rfl
theorem zpd {n : Nat} {get : Nat -> Nat -> AV} {l : List CV} (hn : n = l.length) (h : ∀ i, i < n -> get i 0 = .int .i64 (zbj l i).kd /\ get i 1 = .int .u64 (zbj l i).nn /\ get i 2 = .str (zbj l i).tx /\ rdL (get i 3) = (zbj l i).ls /\ okL (get i 3)) :
   rdL (.lst 4 n get) = l /\ okL (.lst 4 n get) := by
 refine ⟨yf9 (by rw [zjb]; exact hn) fun i hi => ?_, rfl, fun i hi => ?_⟩
 · rw [zjb] at hi
   obtain ⟨a, b, c, d, _⟩ := h i hi
   rw [zrc hi, a, b, c, d]
   exact CV.eta _
 · obtain ⟨a, b, c, d, e⟩ := h i hi
   exact ⟨⟨_, a⟩, ⟨_, b⟩, ⟨_, c⟩, e⟩
theorem ysb (y : Rt) : rdL (yqw std y 3) = (zhb y).ls /\ okL (yqw std y 3) := by
 refine zpd (l := [zgh y.h, zgh y.p, zgh y.c, zep y.i]) rfl fun i hi => ?_
 match i, hi with
 | 0, _ => exact ⟨rfl, rfl, rfl, rfl, trivial⟩
 | 1, _ => exact ⟨rfl, rfl, rfl, rfl, trivial⟩
 | 2, _ => exact ⟨rfl, rfl, rfl, rfl, trivial⟩
 | 3, _ => exact ⟨rfl, rfl, rfl, rfl, trivial⟩
theorem yse (y : Ep) : rdL (yqx std y 3) = (zhn y).ls /\ okL (yqx std y 3) := by
 refine zpd (l := [zgh (plB y.pl), zep (y.w % 18446744073709551616)]) rfl fun i hi => ?_
 match i, hi with
 | 0, _ => exact ⟨rfl, rfl, rfl, rfl, trivial⟩
 | 1, _ => exact ⟨rfl, rfl, rfl, rfl, trivial⟩
theorem yl2 (l : List Rt) : rdL (.lst 4 (zb1 l) (fun q => yqw std (zfc l q))) = l.map zhb /\ okL (.lst 4 (zb1 l) (fun q => yqw std (zfc l q))) := by
 refine zpd (by simp [zb1]) fun i hi => ?_
 rw [zjm (V := rtV) zhb (show i < l.length from hi)]
 exact ⟨rfl, rfl, rfl, (ysb _).1, (ysb _).2⟩
theorem yl4 (l : List Ep) : rdL (.lst 4 (zb1 l) (fun q => yqx std (zex l q))) = l.map zhn /\ okL (.lst 4 (zb1 l) (fun q => yqx std (zex l q))) := by
 refine zpd (by simp [zb1]) fun i hi => ?_
 rw [zjm (V := epV) zhn (show i < l.length from hi)]
 exact ⟨rfl, rfl, rfl, (yse _).1, (yse _).2⟩
theorem ysd (y : Ls) : rdL (ymu std y 3) = (zig y).ls /\ okL (ymu std y 3) := by
 refine zpd (l := [zgh y.n, zgh (plB y.pl), zr9 y.rs]) rfl fun i hi => ?_
 match i, hi with
 | 0, _ => exact ⟨rfl, rfl, rfl, rfl, trivial⟩
 | 1, _ => exact ⟨rfl, rfl, rfl, rfl, trivial⟩
 | 2, _ => exact ⟨rfl, rfl, rfl, (yl2 _).1, (yl2 _).2⟩
theorem ysf (y : Cl) : rdL (yqy std y 3) = (zih y).ls /\ okL (yqy std y 3) := by
 refine zpd (l := [zgh y.n, zs9 y.es]) rfl fun i hi => ?_
 match i, hi with
 | 0, _ => exact ⟨rfl, rfl, rfl, rfl, trivial⟩
 | 1, _ => exact ⟨rfl, rfl, rfl, (yl4 _).1, (yl4 _).2⟩
theorem yl3 (l : List Ls) : rdL (.lst 4 (zb1 l) (fun q => ymu std (zak l q))) = l.map zig /\ okL (.lst 4 (zb1 l) (fun q => ymu std (zak l q))) := by
 refine zpd (by simp [zb1]) fun i hi => ?_
 rw [zjm (V := lsV) zig (show i < l.length from hi)]
 exact ⟨rfl, rfl, rfl, (ysd _).1, (ysd _).2⟩
theorem yl5 (l : List Cl) : rdL (.lst 4 (zb1 l) (fun q => yqy std (zam l q))) = l.map zih /\ okL (.lst 4 (zb1 l) (fun q => yqy std (zam l q))) := by
 refine zpd (by simp [zb1]) fun i hi => ?_
 rw [zjm (V := clV) zih (show i < l.length from hi)]
 exact ⟨rfl, rfl, rfl, (ysf _).1, (ysf _).2⟩
theorem ysg (y : Cf) : rdL (.lst 4 3 (yqz std y)) = (zlf y).ls /\ okL (.lst 4 3 (yqz std y)) := by
 refine zpd (l := [zep y.v, zwm y.ls, zx6 y.cs]) rfl fun i hi => ?_
 match i, hi with
 | 0, _ => exact ⟨rfl, rfl, rfl, rfl, trivial⟩
 | 1, _ => exact ⟨rfl, rfl, rfl, (yl3 _).1, (yl3 _).2⟩
 | 2, _ => exact ⟨rfl, rfl, rfl, (yl5 _).1, (yl5 _).2⟩
def fewL (x : Ls) : Bool := !zg6 x
def fewC (x : Cl) : Bool := !zh4 x
def upE (x : Ep) : Bool := !zqw x
def upC (x : Cl) : Bool := !zqr x
theorem zgz {α : Type} (p : α -> Bool) : ∀ l : List α, l.any p = !(l.all fun x => !p x)
 | [] => rfl
 | a :: l => by rw [List.any_cons, List.all_cons, zgz p l]; cases p a <;> simp
def yy2 (l : List Ls) (i : Nat) : Prop := znk lsV fewL l i
def yy3 (l : List Cl) (i : Nat) : Prop := znk clV fewC l i
def upTE (l : List Ep) (i : Nat) : Prop := znk epV upE l i
def upTC (l : List Cl) (i : Nat) : Prop := znk clV upC l i
def rmA (L : za9) (y : Cf) : Nat -> St -> Option Ann := fun id st => match id with
 | 0 => some ⟨Nat, fun i => [(20, .int .i64 (L zbu i))], fun i => [], [1, 18, 19], [1], fun i => L2 L yy2 (L Cf.ls y) i, fun i => L2 L yvt (L Cf.ls y) i⟩
 | 2 => some ⟨Nat, fun i => [(32, .int .i64 (L zbu i))], fun i => [], [30, 31], [], fun i => L2 L yy3 (L Cf.cs y) i, fun i => L2 L ytr (L Cf.cs y) i⟩
 | _ => none
theorem yo8 {x : Cf} (h : x.ls.all fewL = false) : zh3 x = true := by
 unfold zh3
 rw [zgz zg6, show (x.ls.all fun a => !zg6 a) = false from h]; simp
theorem yo7 {x : Cf} (h : x.cs.all fewC = false) : zh3 x = true := by
 unfold zh3
 rw [zgz zh4, show (x.cs.all fun a => !zh4 a) = false from h]; simp
theorem yo9 {x : Cf} (h0 : ¬ (8 < x.ls.length \/ 8 < x.cs.length)) (h : x.ls.all fewL = true) (h2 : x.cs.all fewC = true) : zh3 x = false := by
 unfold zh3
 rw [zgz zh4, zgz zg6, show (x.cs.all fun a => !zh4 a) = true from h2, show (x.ls.all fun a => !zg6 a) = true from h, decide_eq_false h0]; rfl
theorem zya : zay Tryz.prog (prS 40 zh2 zbv zh3 zyl std) := by
 intro xs p r h hp
 dsimp only [prS] at h |-
 split at h <;> cases h
 try simp only [L2, L3, std] at hp |-
 rename_i x
 refine zt2 ze4 hp.1 ?_
 have hp := hp.2
 show za7 _ _ _ (.bool (zh3 (rdG cfV x)))
 have hp : zyl (rdG cfV x) := hp
 generalize rdG cfV x = y at hp |-
 refine za8 (T := tt) (S := noS) (lo := fun L => rmA L y) (lb := noA) 5 (fn := Tryz.f40) (xs := fun L => [.agg [.int .u64 (L Cf.v y), zh5 L (L Cf.ls y), zg8 L (L Cf.cs y)]]) rfl rfl (by kernel_rfl) (by kernel_rfl) rfl zaa (zcc _) (by kernel_rfl) ?_
 intro L P' Q' hL hP hQ
 (cbv; try simp only [syT, true_and, and_true])
 have e1 : zb1 y.ls = y.ls.length := rfl
 have e2 : zb1 y.cs = y.cs.length := rfl
 refine ⟨fun h => ?_, fun h => ⟨fun h2 => ?_, fun h2 => ⟨⟨0, ?_⟩, fun i hi => ?_⟩⟩⟩
 · (subst hL; subst hQ; simp only [L2, L3, std] at *; try simp only [syS, reduceCtorEq, Int.reduceToNat, Int.reduceAdd, Int.reduceSub] at *)
   unfold zh3
   rw [decide_eq_true (by omega)]; rfl
 · (subst hL; subst hQ; simp only [L2, L3, std] at *; try simp only [syS, reduceCtorEq, Int.reduceToNat, Int.reduceAdd, Int.reduceSub] at *)
   unfold zh3
   rw [decide_eq_true (by omega)]; rfl
 · (cbv; try simp only [syT, true_and, and_true])
   (subst hL; subst hQ; simp only [L2, L3, std] at *; try simp only [syS, reduceCtorEq, Int.reduceToNat, Int.reduceAdd, Int.reduceSub] at *)
   exact ziy _ _ _
 · cbv at hi
   (cbv; try simp only [syT, true_and, and_true])
   refine ⟨fun hlt => ⟨?_, fun h1 => ?_, fun h1 => ⟨i + 1, ?_⟩⟩, fun hge => ⟨⟨0, ?_⟩, fun k hk => ?_⟩⟩
   · (subst hL; subst hQ; simp only [L2, L3, std] at *; try simp only [syS, reduceCtorEq, Int.reduceToNat, Int.reduceAdd, Int.reduceSub] at *)
     omega
   · (subst hL; subst hQ; simp only [L2, L3, std] at *; try simp only [syS, reduceCtorEq, Int.reduceToNat, Int.reduceAdd, Int.reduceSub] at *)
     refine (yo8 (zdy (V := lsV) (i := i) (by omega) ?_)).symm
     show (!decide (8 < (zak y.ls i).rs.length)) = false
     rw [decide_eq_true (show 8 < (zak y.ls i).rs.length by have : zb1 (zak y.ls i).rs = (zak y.ls i).rs.length := rfl; omega)]; rfl
   · (cbv; try simp only [syT, true_and, and_true])
     (subst hL; subst hQ; simp only [L2, L3, std] at *; try simp only [syS, reduceCtorEq, Int.reduceToNat, Int.reduceAdd, Int.reduceSub] at *)
     refine ⟨by omega, zdw hi (by omega) ?_, ?_⟩
     · show (!decide (8 < (zak y.ls i).rs.length)) = true
       rw [decide_eq_false (show ¬ 8 < (zak y.ls i).rs.length by have : zb1 (zak y.ls i).rs = (zak y.ls i).rs.length := rfl; omega)]; rfl
     · show y.ls.length - (i + 1) < y.ls.length - i
       omega
   · (cbv; try simp only [syT, true_and, and_true])
     (subst hL; subst hQ; simp only [L2, L3, std] at *; try simp only [syS, reduceCtorEq, Int.reduceToNat, Int.reduceAdd, Int.reduceSub] at *)
     exact ziy _ _ _
   · cbv at hk
     (cbv; try simp only [syT, true_and, and_true])
     refine ⟨fun hlt => ⟨?_, fun h1 => ?_, fun h1 => ⟨k + 1, ?_⟩⟩, fun hge2 => ?_⟩
     · (subst hL; subst hQ; simp only [L2, L3, std] at *; try simp only [syS, reduceCtorEq, Int.reduceToNat, Int.reduceAdd, Int.reduceSub] at *)
       omega
     · (subst hL; subst hQ; simp only [L2, L3, std] at *; try simp only [syS, reduceCtorEq, Int.reduceToNat, Int.reduceAdd, Int.reduceSub] at *)
       refine (yo7 (zdy (V := clV) (i := k) (by omega) ?_)).symm
       show (!decide (8 < (zam y.cs k).es.length)) = false
       rw [decide_eq_true (show 8 < (zam y.cs k).es.length by have : zb1 (zam y.cs k).es = (zam y.cs k).es.length := rfl; omega)]; rfl
     · (cbv; try simp only [syT, true_and, and_true])
       (subst hL; subst hQ; simp only [L2, L3, std] at *; try simp only [syS, reduceCtorEq, Int.reduceToNat, Int.reduceAdd, Int.reduceSub] at *)
       refine ⟨by omega, zdw hk (by omega) ?_, ?_⟩
       · show (!decide (8 < (zam y.cs k).es.length)) = true
         rw [decide_eq_false (show ¬ 8 < (zam y.cs k).es.length by have : zb1 (zam y.cs k).es = (zam y.cs k).es.length := rfl; omega)]; rfl
       · show y.cs.length - (k + 1) < y.cs.length - k
         omega
     · (subst hL; subst hQ; simp only [L2, L3, std] at *; try simp only [syS, reduceCtorEq, Int.reduceToNat, Int.reduceAdd, Int.reduceSub] at *)
       exact (yo9 (by omega) (zf8 hi (by omega)) (zf8 hk (by omega))).symm
def rbA (L : za9) (y : Cf) : Nat -> St -> Option Ann := fun id st => match id with
 | 0 => some ⟨Nat, fun i => [(13, .int .i64 (L zbu i))], fun i => [], [1, 11, 12], [1], fun i => L2 L upTC (L Cf.cs y) i, fun i => L2 L ytr (L Cf.cs y) i⟩
 | 2 => zgj st 13 fun k => some ⟨Nat, fun j => [(20, .int .i64 (L zbu j))], fun j => [], [1, 11, 12, 13, 18, 19], [1], fun j => L2 L upTE (L Cl.es (L2 L zam (L Cf.cs y) (L Int.toNat k))) j, fun j => L2 L yy1 (L Cl.es (L2 L zam (L Cf.cs y) (L Int.toNat k))) j⟩
 | _ => none
theorem yur {x : Cf} (h : x.cs.all upC = false) : ygr x = true := by
 unfold ygr
 rw [zgz zqr, show (x.cs.all fun a => !zqr a) = false from h]; rfl
theorem yus {x : Cf} (h : x.cs.all upC = true) : ygr x = false := by
 unfold ygr
 rw [zgz zqr, show (x.cs.all fun a => !zqr a) = true from h]; rfl
theorem yw8 {x : Cl} (h : x.es.all upE = false) : upC x = false := by
 unfold upC zqr
 rw [zgz zqw, show (x.es.all fun a => !zqw a) = false from h]; rfl
theorem yw9 {x : Cl} (h : x.es.all upE = true) : upC x = true := by
 unfold upC zqr
 rw [zgz zqw, show (x.es.all fun a => !zqw a) = true from h]; rfl
def ycv (L : za9) : zbn := (14, fun xs => match xs with
 | [x] => some (L zh2 x /\ L znh (L zbv x), .tup [.str (L cfT (L zbv x)), .int .i64 (L cfE (L zbv x))])
 | _ => none)
theorem ycw : zay Tryz.prog (ycv std) := by
 intro xs p r h hp
 dsimp only [ycv] at h |-
 split at h <;> cases h
 try simp only [L2, L3, std] at hp |-
 rename_i x
 refine zt2 ze4 hp.1 ?_
 have hp := hp.2
 show za7 _ _ _ (.tup [.str (cfT (rdG cfV x)), .int .i64 (cfE (rdG cfV x))])
 have hp : znh (rdG cfV x) := hp
 generalize rdG cfV x = y at hp |-
 refine za8 (T := tt) (S := fun L => zai [prS 40 zh2 zbv zh3 zyl L, yc1 L, zpa 7000 L]) (lo := fun L => rbA L y) (lb := noA) 5 (fn := Tryz.f14) (xs := fun L => [.agg [.int .u64 (L Cf.v y), zh5 L (L Cf.ls y), zg8 L (L Cf.cs y)]]) rfl rfl (by kernel_rfl) (by kernel_rfl) rfl zaa (za1 ⟨zya, yc2, zo8 _, trivial⟩) (by kernel_rfl) ?_
 intro L P' Q' hL hP hQ
 have hG : L zbv (.agg [.int .u64 (L Cf.v y), .lst 7 (L zb1 (L Cf.ls y)) (fun i => lsC L (L (L zak (L Cf.ls y)) i)), .lst 2 (L zb1 (L Cf.cs y)) (fun i => clC L (L (L zam (L Cf.cs y)) i))]) = y := by subst hL; exact (gK ze4 y _ rfl).2
 have hO : L zh2 (.agg [.int .u64 (L Cf.v y), .lst 7 (L zb1 (L Cf.ls y)) (fun i => lsC L (L (L zak (L Cf.ls y)) i)), .lst 2 (L zb1 (L Cf.cs y)) (fun i => clC L (L (L zam (L Cf.cs y)) i))]) := by subst hL; exact (gK ze4 y _ rfl).1
 (cbv; try simp only [syT, true_and, and_true])
 simp only [hG, hO, true_and]
 have e2 : zb1 y.cs = y.cs.length := rfl
 have e3 : ∀ z : Cl, zb1 z.es = z.es.length := fun _ => rfl
 obtain ⟨hl, hw⟩ := hp
 have hl' := hl
 simp only [ze2, Bool.and_eq_true, decide_eq_true_eq, List.all_eq_true, ze1, zf1] at hl'
 obtain ⟨⟨⟨l1, l2⟩, l3⟩, l4⟩ := hl'
 refine ⟨?_, fun h => ?_, fun h => ⟨⟨0, ?_⟩, fun k hk => ?_⟩⟩
 · (subst hL; subst hQ; simp only [L2, L3, std] at *; try simp only [syS, reduceCtorEq, Int.reduceToNat, Int.reduceAdd, Int.reduceSub] at *)
   trivial
 · (subst hL; subst hQ; simp only [L2, L3, std] at *; try simp only [syS, reduceCtorEq, Int.reduceToNat, Int.reduceAdd, Int.reduceSub] at *)
   have e : cfE y = 6 := by unfold cfE; rw [if_pos h]
   exact ⟨by rw [cfT, if_neg (by rw [e]; decide)], e.symm⟩
 · (cbv; try simp only [syT, true_and, and_true])
   (subst hL; subst hQ; simp only [L2, L3, std] at *; try simp only [syS, reduceCtorEq, Int.reduceToNat, Int.reduceAdd, Int.reduceSub] at *)
   exact ziy _ _ _
 · cbv at hk
   (cbv; try simp only [syT, true_and, and_true])
   try simp only [hG, hO, true_and]
   refine ⟨fun hlt => ⟨?_, ⟨⟨0, ?_⟩, fun j hj => ?_⟩⟩, fun hge => ?_⟩
   · (subst hL; subst hQ; simp only [L2, L3, std] at *; try simp only [syS, reduceCtorEq, Int.reduceToNat, Int.reduceAdd, Int.reduceSub] at *)
     omega
   · (cbv; try simp only [syT, true_and, and_true])
     (subst hL; subst hQ; simp only [L2, L3, std] at *; try simp only [syS, reduceCtorEq, Int.reduceToNat, Int.reduceAdd, Int.reduceSub] at *)
     exact ziy _ _ _
   · cbv at hj
     (cbv; try simp only [syT, true_and, and_true])
     refine ⟨fun hlt2 => ⟨?_, fun h3 => ?_, fun h3 => ⟨j + 1, ?_⟩⟩, fun hge2 => ⟨k + 1, ?_⟩⟩
     · (subst hL; subst hQ; simp only [L2, L3, std] at *; try simp only [syS, reduceCtorEq, Int.reduceToNat, Int.reduceAdd, Int.reduceSub] at *)
       omega
     · (subst hL; subst hQ; simp only [L2, L3, std] at *; try simp only [syS, reduceCtorEq, Int.reduceToNat, Int.reduceAdd, Int.reduceSub] at *)
       have e4 := e3 (zam y.cs k)
       have b1 : ygr y = true := yur (zdy (V := clV) (i := k) (by omega) (yw8 (zdy (V := epV) (i := j) (by show j < (zam y.cs k).es.length; omega) (by
         show (!decide ((zex (zam y.cs k).es j).w < 0)) = false
         rw [decide_eq_true h3]; rfl))))
       have e : cfE y = 7 := by unfold cfE; rw [if_neg (by rw [h]; decide), if_pos b1]
       exact ⟨by rw [cfT, if_neg (by rw [e]; decide)], e.symm⟩
     · (cbv; try simp only [syT, true_and, and_true])
       (subst hL; subst hQ; simp only [L2, L3, std] at *; try simp only [syS, reduceCtorEq, Int.reduceToNat, Int.reduceAdd, Int.reduceSub] at *)
       have e4 := e3 (zam y.cs k)
       have hm := (l4 _ (show zam y.cs k ∈ y.cs by rw [zam, zbq (V := clV) (by omega)]; exact List.getElem_mem _)).2
       refine ⟨by omega, zdw hj (by omega) ?_, ?_⟩
       · show (!decide ((zex (zam y.cs k).es j).w < 0)) = true
         rw [decide_eq_false (by omega)]; rfl
       · show (zam y.cs k).es.length - (j + 1) + 1 <= (zam y.cs k).es.length - j
         omega
     · (cbv; try simp only [syT, true_and, and_true])
       (subst hL; subst hQ; simp only [L2, L3, std] at *; try simp only [syS, reduceCtorEq, Int.reduceToNat, Int.reduceAdd, Int.reduceSub] at *)
       have e4 := e3 (zam y.cs k)
       refine ⟨by omega, zdw hk (by omega) (yw9 (zf8 hj (by show (zam y.cs k).es.length <= j; omega))), ?_⟩
       show y.cs.length - (k + 1) + 1 <= y.cs.length - k
       omega
   · (subst hL; subst hQ; simp only [L2, L3, std] at *; try simp only [syS, reduceCtorEq, Int.reduceToNat, Int.reduceAdd, Int.reduceSub] at *)
     have hb : ygr y = false := yus (zf8 hk (by omega))
     have hf := yll hl hw
     have hV : mkV std 3 0 [] (.lst 4 3 (yqz std y)) = zlf y := congrArg (CV.mk 3 0 []) (ysg y).1
     have hV' : CV.mk 3 0 [] (rdL (.lst 4 3 (yqz std y))) = zlf y := hV
     rw [hV, hV']
     have sz1 : ∀ {α : Type} {l : List α} (n : Nat), n <= 12 -> l.length <= n -> zi8 l := fun n hn hl => by show _ <= 1000000; omega
     have e : cfE y = zjf (zlf y) := by unfold cfE; rw [if_neg (by rw [h]; decide), if_neg (by rw [hb]; decide)]
     refine ⟨⟨⟨sz1 12 (by omega) l1, sz1 12 (by omega) l2, fun x hx => sz1 12 (by omega) (l3 x hx).1.2, fun c hc => sz1 12 (by omega) (l4 c hc).2⟩, fun x hx => (hw.2.1 x hx).1, fun c hc e he => (hw.2.2 c hc e he).1⟩, ⟨(ysg y).2, ⟨hf.sz, by omega⟩, hf.wf, ?_⟩, ?_, e.symm⟩
     · have := hf.tx
       omega
     · unfold cfT
       rw [e]
       split
       · rfl
       · rename_i h3
         unfold zje; rw [if_neg h3]
theorem yuc (x : Ct) : (⟨x.ver, x.bod, x.som, x.ep, x.non, x.las, x.tv, x.tc, x.ti, x.rv, x.rc, x.ri⟩ : Ct) = x := rfl
def zCt : Ct := ⟨0, [], false, 0, 0, [], 0, 0, false, 0, 0, false⟩
theorem yb9 {e : Int} (he : zas e) : upto 900000 (zgi 1 e [] [0]) /\ zns e [] [0] := by
 have R := zll (k := 1) (e := e) (b := []) (l := [0]) rfl (by decide) (by decide) he (by decide) (yux ⟨by decide, by decide⟩)
 have := R.len
 exact ⟨by unfold upto; omega, yds he (by simp) (yux ⟨by decide, by decide⟩)⟩
theorem awT : plT ⟨127, 0, 0, 1, 80⟩ = [49, 50, 55, 46, 48, 46, 48, 46, 49, 58, 56, 48] := by
 have d1 := (zi9 (s := [49, 50, 55]) (by decide)).1
 have d2 := (zi9 (s := [48]) (by decide)).1
 have d3 := (zi9 (s := [49]) (by decide)).1
 have d4 := (zi9 (s := [56, 48]) (by decide)).1
 rw [show wnV [49, 50, 55] = 127 by decide] at d1
 rw [show wnV [48] = 0 by decide] at d2
 rw [show wnV [49] = 1 by decide] at d3
 rw [show wnV [56, 48] = 80 by decide] at d4
 rw [plT, d1, d2, d3, d4]; rfl
theorem awO : zsz ⟨127, 0, 0, 1, 80⟩ := ⟨⟨by decide, by decide⟩, ⟨by decide, by decide⟩, ⟨by decide, by decide⟩, ⟨by decide, by decide⟩, by decide, by decide⟩
theorem zzz : za7 Tryz.prog 112 [] (.bool true) := by
 refine za5 (T := tt) (S := fun L => zai [tru 124, ynj L, ztq L]) (lo := noA) (lb := noA) 5 (fn := Tryz.f112) rfl rfl (by kernel_rfl) (by kernel_rfl) rfl zaa (za1 ⟨zb9 zic, yi2, zyi, trivial⟩) (by kernel_rfl) ?_
 have e := (ymh awO).1 (by decide)
 rw [awT] at e
 (intro L P1 Q1 hL hP hQ; cbv; subst hL; simp only [L2, L3, std, syT]; subst hQ)
 (simp only [syS, reduceCtorEq, Int.reduceToNat, Int.reduceAdd, Int.reduceSub])
 simp only [e.1, e.2]
 exact ⟨(by decide : (12 : Nat) <= 1000000), fun _ => ⟨fun _ => ⟨by omega, fun _ => ⟨awO, awT⟩, rfl⟩, trivial⟩, trivial⟩
theorem yad : za7 Tryz.prog 79 [] (.bool true) := by
 refine za5 (T := tt) (S := fun L => zai [tru 112]) (lo := noA) (lb := noA) 5 (fn := Tryz.f79) rfl rfl (by kernel_rfl) (by kernel_rfl) rfl zaa (za1 ⟨zb9 zzz, trivial⟩) (by kernel_rfl) ?_
 (intro L P1 Q1 hL hP hQ; cbv; subst hL; simp only [L2, L3, std, syT]; subst hQ)
 (simp only [syS, reduceCtorEq, Int.reduceToNat, Int.reduceAdd, Int.reduceSub])
def plAt (L : za9) (x : Pl) : Nat -> AV
 | 0 => .int .u8 (L Pl.a x)
 | 1 => .int .u8 (L Pl.b x)
 | 2 => .int .u8 (L Pl.c x)
 | 3 => .int .u8 (L Pl.d x)
 | _ => .int .u16 (L Pl.p x)
def plOf (y : List Int × Int × Unit) : Pl := ⟨zd3 y.1 0, zd3 y.1 1, zd3 y.1 2, zd3 y.1 3, y.2.1⟩
theorem zw5 {H : Type} {enc : TypeId × Value -> H} {W : World} : zeb enc Tryz.prog W 105 Pl 5 (plAt std) zsz := by
 have O := (zcn (P := Tryz.prog) (enc := enc) (W := W) Tryz.underlying105 (by kernel_rfl) (zah rfl (yda Tryz.underlying103 (by kernel_rfl) (zde Tryz.underlying5 (by kernel_rfl)) (by omega)) (zah rfl (zde Tryz.underlying65 (by kernel_rfl)) (zdr _))))
 refine ⟨O.size, fun fuel cs x h => ?_⟩
 obtain ⟨y, ⟨⟨hl, hall⟩, hp, _⟩, hlen, hy⟩ := O.go fuel cs x h
 have hb : ∀ j, j < 4 -> 0 <= zd3 y.1 j /\ zd3 y.1 j <= 255 := fun j hj => by
   have hlt : j < y.1.length := by omega
   have := bounds_u8 (hall _ (List.getElem_mem hlt))
   rw [zd3, List.getD_eq_getElem?_getD, List.getElem?_eq_getElem hlt]
   exact this
 refine ⟨plOf y, ⟨hb 0 (by omega), hb 1 (by omega), hb 2 (by omega), hb 3 (by omega), bounds_u16 hp⟩, hlen, fun j hj => ?_⟩
 obtain ⟨v, v1, v2, v3⟩ := hy j hj
 refine ⟨v, v1, v2, ?_⟩
 have cell : ∀ k, k < 4 -> avL (fun n (_ : Nat) => AV.int .u8 n) y.1 (k / 1) (k % 1) = .int .u8 (zd3 y.1 k) := fun k hk => by
   rw [Nat.div_one, avL, zd3, List.getD_eq_getElem?_getD, List.getElem?_eq_getElem (by omega : k < y.1.length)]; rfl
 match j, hj with
 | 0, _ => simp only [Nat.mul_one, Nat.lt_add_one, show (0 : Nat) < 4 by omega, if_true, cell] at v3; exact v3
 | 1, _ => simp only [Nat.mul_one, show (1 : Nat) < 4 by omega, if_true, cell] at v3; exact v3
 | 2, _ => simp only [Nat.mul_one, show (2 : Nat) < 4 by omega, if_true, cell] at v3; exact v3
 | 3, _ => simp only [Nat.mul_one, show (3 : Nat) < 4 by omega, if_true, cell] at v3; exact v3
 | 4, _ => exact v3
theorem zeb.turn {H : Type} {enc : TypeId × Value -> H} {P : Program} {W : World} {t : TypeId} {α β : Type} {sz : Nat} {av : α -> Nat -> AV} {av' : β -> Nat -> AV} {ok : α -> Prop} {ok' : β -> Prop} (O : zeb enc P W t α sz av ok) (f : α -> β) (h2 : ∀ y, ok y -> ok' (f y))
   (h1 : ∀ y, ok y -> ∀ j, j < sz -> ∀ v, R W.heap (DW W) zav (av y j) v -> R W.heap (DW W) zav (av' (f y) j) v) : zeb enc P W t β sz av' ok' := by
 refine ⟨O.size, fun fuel cs x h => ?_⟩
 obtain ⟨y, y1, y2, y3⟩ := O.go fuel cs x h
 refine ⟨f y, h2 y y1, y2, fun j hj => ?_⟩
 obtain ⟨v, v1, v2, v3⟩ := y3 j hj
 exact ⟨v, v1, v2, h1 y y1 j hj v v3⟩
theorem yt6 {h : Array Obj} {D : Nat -> Prop} {μ : Mu} {sz n : Nat} {get get' : Nat -> Nat -> AV} {v : Value} (e : ∀ i j, i < n -> j < sz -> get i j = get' i j) (r : R h D μ (.lst sz n get) v) : R h D μ (.lst sz n get') v := by
 cases r with
 | lst0 _ _ a cap hn => exact .lst0 _ _ a cap hn
 | lst _ _ _ b o cap vs hD hc hv h1 hr => exact .lst _ _ _ b o cap vs hD hc hv h1 (fun i j hi hj => by rw [<- e i j hi hj]; exact hr i j hi hj)
theorem zhz {H : Type} {enc : TypeId × Value -> H} {P : Program} {W : World} {t e : TypeId} {α : Type} {V : Vw α} {ok : α -> Prop} (ht : P.underlying t = some (.slice e)) (hc : P.cellsOf t = 1) (he : zeb enc P W e α V.sz (V.cell std) ok) (hs : 0 < V.sz) :
   zeb enc P W t (List α) 1 (fun l _ => ygp std V l) (fun l => l.length <= maxLen /\ ∀ y ∈ l, ok y) :=
 (opens_slice ht hc he hs).turn id (fun y h => h) (fun y h j hj v r => yt6 (fun i q hi hq => by
   show avL (V.cell std) y i q = V.cell std (zps V y i) q
   have hi : i < y.length := hi
   rw [avL, List.getElem?_eq_getElem hi, zbq hi]) r)
theorem yi4 {H : Type} {enc : TypeId × Value -> H} {W : World} : zeb enc Tryz.prog W 110 Rt 4 (rtC std) yw3 :=
 (zcn Tryz.underlying110 (by kernel_rfl) (zah rfl (zg2 Tryz.underlying9 (by kernel_rfl)) (zah rfl (zg2 Tryz.underlying9 (by kernel_rfl)) (zah rfl (zg2 Tryz.underlying9 (by kernel_rfl)) (zah rfl (zde Tryz.underlying22 (by kernel_rfl)) (zdr _)))))).turn
   (fun y => Rt.mk y.1 y.2.1 y.2.2.1 y.2.2.2.1) (fun y h => by have := bounds_u64 h.2.2.2.1; exact ⟨this.1, by show y.2.2.2.1 < _; omega⟩)
   (fun y h j hj v r => by match j, hj with | 0, _ => exact r | 1, _ => exact r | 2, _ => exact r | 3, _ => exact r)
theorem yi6 {H : Type} {enc : TypeId × Value -> H} {W : World} : zeb enc Tryz.prog W 131 Ep 6 (epC std) yw4 :=
 (zcn Tryz.underlying131 (by kernel_rfl) (zah rfl zw5 (zah rfl (zde Tryz.underlying3 (by kernel_rfl)) (zdr _)))).turn
   (fun y => Ep.mk y.1 y.2.1) (fun y h => by have := bounds_i64 h.2.1; exact ⟨h.1, this.1, this.2⟩)
   (fun y h j hj v r => by match j, hj with | 0, _ => exact r | 1, _ => exact r | 2, _ => exact r | 3, _ => exact r | 4, _ => exact r | 5, _ => exact r)
theorem yi5 {H : Type} {enc : TypeId × Value -> H} {W : World} : zeb enc Tryz.prog W 108 Ls 7 (lsC std) ym4 :=
 (zcn Tryz.underlying108 (by kernel_rfl) (zah rfl (zg2 Tryz.underlying9 (by kernel_rfl)) (zah rfl zw5 (zah rfl (zhz (V := rtV) Tryz.underlying106 (by kernel_rfl) yi4 (by decide)) (zdr _))))).turn
   (fun y => Ls.mk y.1 y.2.1 y.2.2.1) (fun y h => ⟨h.2.1, h.2.2.1.2⟩)
   (fun y h j hj v r => by match j, hj with | 0, _ => exact r | 1, _ => exact r | 2, _ => exact r | 3, _ => exact r | 4, _ => exact r | 5, _ => exact r | 6, _ => exact r)
theorem yi7 {H : Type} {enc : TypeId × Value -> H} {W : World} : zeb enc Tryz.prog W 113 Cl 2 (clC std) yw5 :=
 (zcn Tryz.underlying113 (by kernel_rfl) (zah rfl (zg2 Tryz.underlying9 (by kernel_rfl)) (zah rfl (zhz (V := epV) Tryz.underlying111 (by kernel_rfl) yi6 (by decide)) (zdr _)))).turn
   (fun y => Cl.mk y.1 y.2.1) (fun y h => h.2.1.2)
   (fun y h j hj v r => by match j, hj with | 0, _ => exact r | 1, _ => exact r)
theorem yi8 {H : Type} {enc : TypeId × Value -> H} {W : World} : zeb enc Tryz.prog W 44 Cf 3 (cfC std) yv6 :=
 (zcn Tryz.underlying44 (by kernel_rfl) (zah rfl (zde Tryz.underlying22 (by kernel_rfl)) (zah rfl (zhz (V := lsV) Tryz.underlying41 (by kernel_rfl) yi5 (by decide)) (zah rfl (zhz (V := clV) Tryz.underlying42 (by kernel_rfl) yi7 (by decide)) (zdr _))))).turn
   (fun y => Cf.mk y.1 y.2.1 y.2.2.1) (fun y h => by have := bounds_u64 h.1; exact ⟨⟨this.1, by show y.1 < _; omega⟩, h.2.1.2, h.2.2.1.2⟩)
   (fun y h j hj v r => by match j, hj with | 0, _ => exact r | 1, _ => exact r | 2, _ => exact r)
theorem yrx : zat 3 = [3] := by rw [zat, show (3 : Int).toNat = 3 from rfl, zbd (by decide)]; rfl
theorem ybi : zat 0 = [0] := by rw [zat, show (0 : Int).toNat = 0 from rfl, zbd (by decide)]; rfl
theorem ylp : zbe (zc3 []) = [3, 0] := by
 rw [zc3, zae, if_neg (by decide), if_neg (by decide), zap]
 show _ ++ (zat 0 ++ _) = _
 rw [ybi]; rfl
theorem yf4 {n : Int} {b : UInt8} (h : zat n = [b]) : zbe (zc3 [zep n, zc3 [], zc3 []]) = [3, 3, 1, b, 3, 0, 3, 0] := by
 rw [zc3, zae, if_neg (by decide), if_neg (by decide), zap, zap, zap, zap]
 show _ ++ (zat 3 ++ (_ ++ (_ ++ (_ ++ _)))) = _
 have e : zbe (zep n) = [1, b] := by rw [zep, zae, if_pos rfl, h]; rfl
 have e' : zbe (.mk 3 0 [] []) = [3, 0] := ylp
 rw [yrx, e, show zbe (zc3 []) = [3, 0] from ylp]; rfl
theorem ypm (n : Int) : zda (zc3 [zep n, zc3 [], zc3 []]) = true := by simp [zc3, zep, zda, zbl]
theorem ypl (n : Int) : zcl (zc3 [zep n, zc3 [], zc3 []]) <= 6 := by
 simp only [zc3, zep, zcl, zaw]
 split <;> decide
theorem yjx {n : Int} {b : UInt8} (h : zat n = [b]) : cfE ⟨n, [], []⟩ = 0 /\ cfT ⟨n, [], []⟩ = [3, 3, 1, b, 3, 0, 3, 0] := by
 have h1 : zjf (zlf ⟨n, [], []⟩) = 0 := by
   show zjf (zc3 [zep n, zc3 [], zc3 []]) = 0
   have := ypl n
   rw [zjf, if_pos (ypm n), if_neg (by omega), yf4 h]; rfl
 have h2 : cfE ⟨n, [], []⟩ = 0 := h1
 refine ⟨h2, ?_⟩
 rw [cfT, if_pos h2, (ycz h1).2.2.2]
 exact yf4 h
theorem ysc (n : Int) : zbv (.agg [.int .u64 n, .nils, .nils]) = ⟨n, [], []⟩ := rfl
theorem ylb (n : Int) : zh2 (.agg [.int .u64 n, .nils, .nils]) := ⟨rfl, ⟨_, rfl⟩, trivial, trivial⟩
theorem yd2 {n : Int} (h : zax n) : znh ⟨n, [], []⟩ := ⟨rfl, h, (fun l hl => nomatch hl), (fun l hl => nomatch hl)⟩
theorem zzw : za7 Tryz.prog 50 [] (.bool true) := by
 refine za5 (T := tt) (S := fun L => zai [ykd L, tru 79, tru 80]) (lo := noA) (lb := noA) 5 (fn := Tryz.f50) rfl rfl (by kernel_rfl) (by kernel_rfl) rfl zaa (za1 ⟨zxc, zb9 yad, zb9 zow, trivial⟩) (by kernel_rfl) ?_
 intro L P' Q' hL hP hQ
 (cbv; try simp only [syT, true_and, and_true])
 (subst hL; subst hQ; simp only [L2, L3, std] at *; try simp only [syS, reduceCtorEq, Int.reduceToNat, Int.reduceAdd, Int.reduceSub] at *)
 simp only [ysc, (yjx ybh).1, (yjx ybh).2, (yjx ybi).1, (yjx ybi).2]
 exact ⟨⟨ylb 1, yd2 ⟨by decide, by decide⟩⟩, ⟨ylb 0, yd2 ⟨by decide, by decide⟩⟩, fun _ => ⟨fun _ => ⟨fun _ => trivial, trivial⟩, trivial⟩, trivial⟩
theorem yab : za7 Tryz.prog 26 [] (.bool true) := by
 refine za5 (T := tt) (S := fun L => zai [tru 50]) (lo := noA) (lb := noA) 5 (fn := Tryz.f26) rfl rfl (by kernel_rfl) (by kernel_rfl) rfl zaa (za1 ⟨zb9 zzw, trivial⟩) (by kernel_rfl) ?_
 (intro L P1 Q1 hL hP hQ; cbv; subst hL; simp only [L2, L3, std, syT]; subst hQ)
 (simp only [syS, reduceCtorEq, Int.reduceToNat, Int.reduceAdd, Int.reduceSub])
theorem ya9 : za7 Tryz.prog 27 [] (.bool true) := by
 refine za5 (T := tt) (S := fun L => zai [tru 51]) (lo := noA) (lb := noA) 5 (fn := Tryz.f27) rfl rfl (by kernel_rfl) (by kernel_rfl) rfl zaa (za1 ⟨zb9 zzu, trivial⟩) (by kernel_rfl) ?_
 (intro L P1 Q1 hL hP hQ; cbv; subst hL; simp only [L2, L3, std, syT]; subst hQ)
 (simp only [syS, reduceCtorEq, Int.reduceToNat, Int.reduceAdd, Int.reduceSub])
theorem yf0 : ctE ⟨0, [], false, 0, 0, [], 0, 0, false, 0, 0, false⟩ (zgi 1 1 [] [0]) = 0 /\ ctS ⟨0, [], false, 0, 0, [], 0, 0, false, 0, 0, false⟩ (zgi 1 1 [] [0]) = ⟨0, [], false, 1, 0, [], 0, 0, false, 0, 0, false⟩ /\ ctT ⟨0, [], false, 0, 0, [], 0, 0, false, 0, 0, false⟩ (zgi 1 1 [] [0]) = [] := by
 obtain ⟨a, b, c⟩ := ypu (x := ⟨0, [], false, 0, 0, [], 0, 0, false, 0, 0, false⟩) (e := 1) (v := 0) ⟨by decide, by decide⟩ ⟨by decide, by decide⟩
 rw [a, b, c]
 exact ⟨rfl, rfl, rfl⟩
theorem zzt : za7 Tryz.prog 6 [] (.bool true) := by
 refine za5 (T := tt) (S := fun L => zai [ydr L, yk7 L, ycx L, ykc L, tru 26, tru 27]) (lo := noA) (lb := noA) 5 (fn := Tryz.f6) rfl rfl (by kernel_rfl) (by kernel_rfl) rfl zaa (za1 ⟨zpw, zx5, zph, zx7, zb9 yab, zb9 ya9, trivial⟩) (by kernel_rfl) ?_
 intro L P' Q' hL hP hQ
 (cbv; try simp only [syT, true_and, and_true])
 repeat' first | refine And.intro ?_ ?_ | refine fun (hh : (_ : Bool) = _) => ?_
 all_goals (try (subst hL; subst hQ; simp only [L2, L3, std] at *; try simp only [syS, reduceCtorEq, Int.reduceToNat, Int.reduceAdd, Int.reduceSub] at *))
 all_goals (try simp only [yuc, rd1, yf0.1, yf0.2.1, yf0.2.2])
 all_goals first
   | exact absurd hh (by decide)
   | exact yr0 _ _
   | exact (yb9 ⟨by decide, by decide⟩).2
   | exact (yb9 ⟨by decide, by decide⟩).1
   | exact ⟨by decide, by decide⟩
   | (unfold upto; decide)
   | skip
 have R := zll (k := 2) (e := 1) (b := [120]) (l := [3, 1]) rfl (by decide) (by decide) ⟨by decide, by decide⟩ (by decide) (yrd ⟨by decide, by decide⟩ ⟨by decide, by decide⟩)
 have hr : ysi ⟨0, [], false, 1, 0, [], 0, 0, false, 0, 0, false⟩ 3 [120] = zgi 2 1 [120] [3, 1] := if_neg (by decide)
 rw [hr]
 exact ⟨fun _ => ⟨fun _ => ⟨fun _ => R.some, trivial⟩, trivial⟩, trivial⟩
def ywt (x : Ct) (y : Cf) : Ct := if cfE y = 0 then zqu x y.v (cfT y) else x
def yws (x : Ct) (y : Cf) : List UInt8 := if cfE y = 0 then ysi x y.v (cfT y) else []
def yna (L : za9) : zbn := (13, fun xs => match xs with
 | [.agg [.int .u64 a, .str b, .bool s, .int .u64 e, .int .u64 n, .str l, .int .u64 p, .int .u64 q, .bool r, .int .u64 t, .int .u64 u, .bool v], x] =>
   some (L zh2 x /\ L znh (L zbv x) /\ L zas e, .tup [ctA L (L2 L ywt (zjr L a b s e n l p q r t u v) (L zbv x)), .str (L2 L yws (zjr L a b s e n l p q r t u v) (L zbv x)), .int .i64 (L cfE (L zbv x))])
 | _ => none)
theorem yqo {α : Type} {V : Vw α} (K : ya8 V) {P : Program} {f : FuncId} {y x r : AV} {q : List AV} (ho : okG V x) (h : za7 P f (y :: .agg ((List.range V.sz).map (V.cell std (rdG V x))) :: q) r) : za7 P f (y :: x :: q) r :=
 zka (fun _ _ _ hr => ywo (fun _ r => G_R K ho r) hr) h
theorem yhv : zay Tryz.prog (yna std) := by
 intro xs p r h hp
 dsimp only [yna] at h |-
 split at h <;> cases h
 try simp only [L2, L3, std] at hp |-
 rename_i a b s e n l p q r t u v x
 obtain ⟨ho, hp, p3⟩ := hp
 refine yqo ze4 ho ?_
 have hp : znh (zbv x) := hp
 have p3 : zas e := p3
 show za7 _ _ [_, .agg [.int .u64 (zbv x).v, zh5 std (zbv x).ls, zg8 std (zbv x).cs]] _
 generalize zbv x = y at hp |-
 refine za8 (T := tt) (S := fun L => zai [ykd L, ycx L]) (lo := fun _ => noA std) (lb := noA) 5 (fn := Tryz.f13) (xs := fun L => [.agg [.int .u64 a, .str b, .bool s, .int .u64 e, .int .u64 n, .str l, .int .u64 p, .int .u64 q, .bool r, .int .u64 t, .int .u64 u, .bool v], .agg [.int .u64 (L Cf.v y), zh5 L (L Cf.ls y), zg8 L (L Cf.cs y)]]) rfl rfl (by kernel_rfl) (by kernel_rfl) rfl zaa (za1 ⟨zxc, zph, trivial⟩) (by kernel_rfl) ?_
 intro L P' Q' hL hP hQ
 have hG : L zbv (.agg [.int .u64 (L Cf.v y), .lst 7 (L zb1 (L Cf.ls y)) (fun i => lsC L (L (L zak (L Cf.ls y)) i)), .lst 2 (L zb1 (L Cf.cs y)) (fun i => clC L (L (L zam (L Cf.cs y)) i))]) = y := by subst hL; exact (gK ze4 y _ rfl).2
 have hO : L zh2 (.agg [.int .u64 (L Cf.v y), .lst 7 (L zb1 (L Cf.ls y)) (fun i => lsC L (L (L zak (L Cf.ls y)) i)), .lst 2 (L zb1 (L Cf.cs y)) (fun i => clC L (L (L zam (L Cf.cs y)) i))]) := by subst hL; exact (gK ze4 y _ rfl).1
 (cbv; try simp only [syT, true_and, and_true])
 simp only [hG, hO, true_and]
 have hv := hp.2.1
 (subst hL; subst hQ; simp only [L2, L3, std] at *; try simp only [syS, reduceCtorEq, Int.reduceToNat, Int.reduceAdd, Int.reduceSub] at *)
 have eX : zjr std a b s e n l p q r t u v = ⟨a, b, s, e, n, l, p, q, r, t, u, v⟩ := rfl
 rw [eX]
 refine ⟨hp, fun h => ⟨zfn (if_neg h), (if_neg h).symm⟩, fun h => ⟨⟨p3, ?_, hv⟩, zfn (if_pos h), (if_pos h).symm, h.symm⟩⟩
 have := zv5 h
 show (cfT y).length <= 1000000
 omega
structure Ac where
 d : Int
 v : Int
 n : Int
 t : List UInt8
 c : Cf
 k : Int
 o : Bool
def acC (L : za9) (x : Ac) : Nat -> AV
 | 0 => .int .u8 (L Ac.d x)
 | 1 => .int .u64 (L Ac.v x)
 | 2 => .int .u64 (L Ac.n x)
 | 3 => .str (L Ac.t x)
 | 4 => .int .u64 (L Cf.v (L Ac.c x))
 | 5 => zh5 L (L Cf.ls (L Ac.c x))
 | 6 => zg8 L (L Cf.cs (L Ac.c x))
 | 7 => .int .u8 (L Ac.k x)
 | _ => .bool (L Ac.o x)
def zdf (l : List Ac) (i : Nat) : Ac := l.getD i ⟨0, 0, 0, [], ⟨0, [], []⟩, 0, false⟩
def lenAc (l : List Ac) : Nat := l.length
def ykr (x : Ac) : Prop := zas x.v /\ zas x.n /\ (0 <= x.d /\ x.d <= 255) /\ (0 <= x.k /\ x.k <= 255) /\ yv6 x.c
def yt1 (x : Ct) : Ct := { x with tc := 0 }
structure PlI (l : List Ac) (y : Nat × Ct) : Prop where
 le : y.1 <= l.length
 ep : zas y.2.ep
 ver : zas y.2.ver
 bod : y.2.bod.length <= 9000
 tc : y.2.tc = 0
def ywv (l : List Ac) (y : Nat × Ct) : Prop := PlI l y
def plMu (l : List Ac) (y : Nat × Ct) : Nat := l.length - y.1
theorem yo4 (k e : Int) (b : List UInt8) (l : List Int) (h0 : 0 <= e) (h1 : e < 18446744073709551616) : (zgi k e b l).length <= 8300 := by
 unfold zgi
 split
 · by_cases hb : byE k (zje (zno k b l)) = 0
   · have G := zwy k e _ [] hb h0 h1
     have hl := G.len
     rw [List.append_nil, List.length_nil] at hl
     have := (ylu hb).2.2
     omega
   · rw [byT, if_neg hb]; simp
 · simp
def yaj (a : Ac) : List Int := rdI (.lst 1 (zd3 [1, 2, 2, 3] (a.k.tmod 4).toNat).toNat (fun i _ => .int .u64 (zd3 [a.v, a.n, 7] i)))
def ygn (a : Ac) (e : Int) : List UInt8 := zgi (1 + a.k.tmod 4) e a.t (yaj a)
theorem yng {a : Ac} (h : ykr a) : (yaj a).length <= 3 /\ ∀ x ∈ yaj a, zax x := by
 have hq : 0 <= a.k.tmod 4 /\ a.k.tmod 4 < 4 := by
   have := h.2.2.2.1
   rw [Int.tmod_eq_emod_of_nonneg this.1]
   omega
 have u7 : zax 7 := ⟨by decide, by decide⟩
 unfold yaj
 generalize a.k.tmod 4 = q at hq |-
 obtain ⟨h1, h2, _⟩ := h
 have hc : q = 0 \/ q = 1 \/ q = 2 \/ q = 3 := by omega
 rcases hc with rfl | rfl | rfl | rfl
 · exact ⟨by show (1 : Nat) <= 3; decide, yux h1⟩
 · exact ⟨by show (2 : Nat) <= 3; decide, yrd h1 h2⟩
 · exact ⟨by show (2 : Nat) <= 3; decide, yrd h1 h2⟩
 · exact ⟨by show (3 : Nat) <= 3; decide, all3 h1 h2 u7⟩
theorem kw {q : Int} (h0 : 0 <= q) (h1 : q < 4) : (1 + ((q + 9223372036854775808) % 18446744073709551616 - 9223372036854775808) + 9223372036854775808) % 18446744073709551616 - 9223372036854775808 = 1 + q := by omega
theorem kv {q : Int} (h0 : 0 <= q) (h1 : q < 4) : (1 + q - 1 + 9223372036854775808) % 18446744073709551616 - 9223372036854775808 = q := by omega
theorem kn (q : Nat) (h1 : q < 4) : 0 <= zd3 [1, 2, 2, 3] q /\ zd3 [1, 2, 2, 3] q <= 3 := by
 match q, h1 with
 | 0, _ => exact ⟨by decide, by decide⟩
 | 1, _ => exact ⟨by decide, by decide⟩
 | 2, _ => exact ⟨by decide, by decide⟩
 | 3, _ => exact ⟨by decide, by decide⟩
theorem zq9 (x : Ct) : isB x x = true := decide_eq_true ⟨rfl, rfl, rfl, rfl, rfl, rfl, rfl⟩
theorem zu4 {x : Ct} (h : x.tc = 0) : yt1 x = x := by
 obtain ⟨a, b, c, d, e, f, g, q, r, s, t, u⟩ := x
 have h : q = 0 := h
 subst h; rfl
theorem zw0 (x : Ct) (v : Int) (b : List UInt8) : (zqu x v b).ep = x.ep /\ (zqu x v b).ver = v /\ (zqu x v b).bod = b /\ (zqu x v b).tc = x.tc := by
 unfold zqu
 split
 · exact ⟨rfl, rfl, rfl, rfl⟩
 · exact ⟨rfl, rfl, rfl, rfl⟩
theorem ygy {x : Ct} {e : Int} (h : zas x.ep) (he : zas e) : zas (zqz x e).ep /\ (zqz x e).ver = x.ver /\ (zqz x e).bod = x.bod /\ (zqz x e).tc = x.tc := by
 unfold zqz
 split
 · exact ⟨h, rfl, rfl, rfl⟩
 · split
   · exact ⟨he, rfl, rfl, rfl⟩
   · exact ⟨he, rfl, rfl, rfl⟩
theorem yfg {x : Ct} (h : zas x.ep) (h0 : x.tc = 0) (s : List UInt8) : zas (ctS x s).ep /\ (ctS x s).ver = x.ver /\ (ctS x s).bod = x.bod /\ (ctS x s).tc = 0 := by
 unfold ctS
 split
 · exact ⟨h, rfl, rfl, h0⟩
 · split
   · obtain ⟨a, b, c, d⟩ := ygy h (yc9 s)
     exact ⟨a, b, c, d.trans h0⟩
   · split
     · exact ⟨h, rfl, rfl, rfl⟩
     · exact ⟨h, rfl, rfl, h0⟩
theorem ydi {l : List Ac} {i : Nat} (h : (i : Int) < (lenAc l : Nat)) : zdf l i ∈ l := by
 have h : i < l.length := by
   have : lenAc l = l.length := rfl
   omega
 rw [zdf, List.getD_eq_getElem?_getD, List.getElem?_eq_getElem h]
 exact List.getElem_mem h
theorem yl8 {l : List Ac} {y : Nat × Ct} (hy : PlI l y) (h : y.1 < l.length) {v : Int} {b : List UInt8} (hv : zas v) (hb : b.length <= 9000) : PlI l (y.1 + 1, zqu y.2 v b) := by
 obtain ⟨a, b', c, d⟩ := zw0 y.2 v b
 exact ⟨h, by show zas (zqu y.2 v b).ep; rw [a]; exact hy.ep, by show zas (zqu y.2 v b).ver; rw [b']; exact hv, by show (zqu y.2 v b).bod.length <= 9000; rw [c]; exact hb, by show (zqu y.2 v b).tc = 0; rw [d]; exact hy.tc⟩
theorem yni {l : List Ac} {y : Nat × Ct} (hy : PlI l y) (h : y.1 < l.length) (s : List UInt8) : PlI l (y.1 + 1, ctS y.2 s) := by
 obtain ⟨a, b', c, d⟩ := yfg hy.ep hy.tc s
 exact ⟨h, a, by show zas (ctS y.2 s).ver; rw [b']; exact hy.ver, by show (ctS y.2 s).bod.length <= 9000; rw [c]; exact hy.bod, d⟩
theorem ywu {l : List Ac} {y : Nat × Ct} (hy : PlI l y) (h : y.1 < l.length) : PlI l (y.1 + 1, y.2) := ⟨h, hy.ep, hy.ver, hy.bod, hy.tc⟩
theorem yx9 {n : Int} (h : zas n) : zas (n.tmod 8) := by
 have := h.1
 rw [Int.tmod_eq_emod_of_nonneg this]
 exact ⟨by omega, by omega⟩
theorem zz1 {x : Cf} (h : ze2 x = true) : zz3 x := by
 simp only [ze2, Bool.and_eq_true, decide_eq_true_eq, List.all_eq_true, ze1, zf1] at h
 obtain ⟨⟨⟨l1, l2⟩, l3⟩, l4⟩ := h
 have sz1 : ∀ {α : Type} {l : List α} (n : Nat), n <= 12 -> l.length <= n -> zi8 l := fun n hn hl => by show _ <= 1000000; omega
 exact ⟨sz1 12 (by omega) l1, sz1 12 (by omega) l2, fun x hx => sz1 12 (by omega) (l3 x hx).1.2, fun c hc => sz1 12 (by omega) (l4 c hc).2⟩
theorem ynh (l : List Ac) : PlI l (0, zCt) := ⟨Nat.zero_le _, ⟨Int.le_refl _, (by decide : (0 : Int) < 18446744073709551616)⟩, ⟨Int.le_refl _, (by decide : (0 : Int) < 18446744073709551616)⟩, Nat.zero_le _, rfl⟩
theorem yd5 {a : Ac} {e : Int} (h : ykr a) (he : zas e) (ht : a.t.length <= 3000) : zns e a.t (yaj a) /\ (ygn a e).length <= 900000 := by
 obtain ⟨m1, m2⟩ := yng h
 have hl := yo4 (1 + a.k.tmod 4) e a.t (yaj a) he.1 he.2
 exact ⟨⟨he, by omega, by omega, m2⟩, by unfold ygn; omega⟩
theorem plw {i : Nat} (h1 : (i : Int) <= 1000) : ((i : Int) + 1 + 9223372036854775808) % 18446744073709551616 - 9223372036854775808 = ((i + 1 : Nat) : Int) := by omega
def fstP (y : Nat × Ct) : Nat := y.1
def zta (y : Nat × Ct) : Ct := y.2
theorem zgp {l : List Ac} (hl : ∀ x ∈ l, ykr x) {y : Nat × Ct} (hy : PlI l y) (hlt : ((fstP y : Nat) : Int) < (lenAc l : Nat)) : y.1 < l.length /\ ykr (zdf l (fstP y)) /\ yt1 (zta y) = zta y /\ (∀ v b, yt1 (zqu (zta y) v b) = zqu (zta y) v b) /\ (∀ s, yt1 (ctS (zta y) s) = ctS (zta y) s) /\
   (0 <= (zdf l (fstP y)).k.tmod 4 /\ (zdf l (fstP y)).k.tmod 4 < 4) := by
 have hls : lenAc l = l.length := rfl
 have hA : ykr (zdf l (fstP y)) := hl _ (ydi hlt)
 have htc : (zta y).tc = 0 := hy.tc
 refine ⟨by have : fstP y = y.1 := rfl; omega, hA, zu4 htc, fun v b => zu4 (by rw [(zw0 _ _ _).2.2.2]; exact htc), fun s => zu4 (yfg hy.ep htc s).2.2.2, ?_⟩
 have := hA.2.2.2.1
 rw [Int.tmod_eq_emod_of_nonneg this.1]
 omega
theorem yhx {x : Ct} {y : Cf} (h : cfE y = 0) : ywt x y = zqu x y.v (cfT y) /\ yws x y = ysi x y.v (cfT y) := ⟨if_pos h, if_pos h⟩
theorem yhw {x : Ct} {y : Cf} (h : ¬ cfE y = 0) : ywt x y = x /\ yws x y = [] := ⟨if_neg h, if_neg h⟩
def ctB2 (L : za9) (c : Ct) : Ob := .box 27 [.int .u64 (L Ct.ver c), .str (L Ct.bod c), .bool (L Ct.som c), .int .u64 (L Ct.ep c), .int .u64 (L Ct.non c), .str (L Ct.las c), .int .u64 (L Ct.tv c), .int .u64 (L Ct.tc c), .bool (L Ct.ti c), .int .u64 (L Ct.rv c), .int .u64 (L Ct.rc c), .bool (L Ct.ri c)]
def qtB (L : za9) (x : Ct) : Ob := .box 40 [.int .u64 (L Ct.ver x), .str (L Ct.bod x), .bool (L Ct.som x), .int .u64 (L Ct.ep x), .int .u64 (L Ct.non x), .str (L Ct.las x), .int .u64 (L Ct.tv x), .int .u64 (L Ct.rv x), .int .u64 (L Ct.rc x), .bool (L Ct.ti x), .bool (L Ct.ri x)]
def plyA (L : za9) (l : List Ac) : Nat -> St -> Option Ann := fun id st => match id with
 | 0 => some ⟨Nat × Ct, fun y => [(22, .int .i64 (L zbu (L fstP y))), (3, .ref 3 0), (4, .ref 4 0)], fun y => [(3, ctB2 L (L zta y)), (4, qtB L (L zta y))], [20, 21], [], fun y => L2 L ywv l y, fun y => L2 L plMu l y⟩
 | _ => none
set_option maxHeartbeats 2000000 in
theorem yi1 (l : List Ac) (hl : ∀ x ∈ l, ykr x) : za7 Tryz.prog 4 [.lst 9 (lenAc l) (fun i => acC std (zdf l i))] (.bool true) := by
 refine za8 (T := tt) (S := fun L => zai [tru 6, prS 11 zh2 zbv ze2 zyl L, ycx L, yca L, yna L, ywa L, ycv L, zra L, yk7 L, ymw L, yxl L]) (lo := fun L => plyA L l) (lb := noA) 5 (fn := Tryz.f4) (xs := fun L => [.lst 9 (L lenAc l) (fun i => acC L (L (L zdf l) i))]) rfl rfl (by kernel_rfl) (by kernel_rfl) rfl zaa
   (za1 ⟨zb9 zzt, zz2, zph, ycb, yhv, ym7, ycw, zmf, zx5, yhg, yol, trivial⟩) (by kernel_rfl) ?_
 intro L P' Q' hL hP hQ
 have hE : ∀ x : Ct, L (L (L (L (L (L (L (L (L (L (L (L Ct.mk (L Ct.ver x)) (L Ct.bod x)) (L Ct.som x)) (L Ct.ep x)) (L Ct.non x)) (L Ct.las x)) (L Ct.tv x)) (L Ct.tc x)) (L Ct.ti x)) (L Ct.rv x)) (L Ct.rc x)) (L Ct.ri x) = x := by subst hL; exact fun x => rfl
 have hN : ∀ x : Ct, L (L (L (L (L (L (L (L (L (L (L (L Ct.mk (L Ct.ver x)) (L Ct.bod x)) (L Ct.som x)) (L Ct.ep x)) (L Ct.non x)) (L Ct.las x)) (L Ct.tv x)) 0) (L Ct.ti x)) (L Ct.rv x)) (L Ct.rc x)) (L Ct.ri x) = L yt1 x := by subst hL; exact fun x => rfl
 have hG : ∀ y : Cf, L zbv (.agg [.int .u64 (L Cf.v y), .lst 7 (L zb1 (L Cf.ls y)) (fun i => lsC L (L (L zak (L Cf.ls y)) i)), .lst 2 (L zb1 (L Cf.cs y)) (fun i => clC L (L (L zam (L Cf.cs y)) i))]) = y := by subst hL; exact fun y => (gK ze4 y _ rfl).2
 have hO : ∀ y : Cf, L zh2 (.agg [.int .u64 (L Cf.v y), .lst 7 (L zb1 (L Cf.ls y)) (fun i => lsC L (L (L zak (L Cf.ls y)) i)), .lst 2 (L zb1 (L Cf.cs y)) (fun i => clC L (L (L zam (L Cf.cs y)) i))]) := by subst hL; exact fun y => (gK ze4 y _ rfl).1
 (cbv; try simp only [syT, true_and, and_true])
 refine ⟨fun hh => ?_, fun hh => ⟨fun hh => ?_, fun hh => ⟨⟨(0, zCt), ?_⟩, fun y hy => ?_⟩⟩⟩
 · (subst hL; subst hQ; simp only [L2, L3, std] at *; try simp only [syS, reduceCtorEq, Int.reduceToNat, Int.reduceAdd, Int.reduceSub] at *)
 · (subst hL; subst hQ; simp only [L2, L3, std] at *; try simp only [syS, reduceCtorEq, Int.reduceToNat, Int.reduceAdd, Int.reduceSub] at *)
 · (cbv; try simp only [syT, true_and, and_true])
   (subst hL; subst hQ; simp only [L2, L3, std] at *; try simp only [syS, reduceCtorEq, Int.reduceToNat, Int.reduceAdd, Int.reduceSub] at *)
   repeat' refine And.intro ?_ ?_
   all_goals first
     | rfl
     | exact ynh l
 · cbv at hy
   obtain ⟨n0, hn0⟩ : ∃ n0 : Nat × Ct, n0 = (y.1 + 1, zqu y.2 (zdf l y.1).v (zdf l y.1).t) := ⟨_, rfl⟩
   obtain ⟨n1, hn1⟩ : ∃ n1 : Nat × Ct, n1 = (y.1 + 1, zqu y.2 (zdf l y.1).c.v (cfT (zdf l y.1).c)) := ⟨_, rfl⟩
   obtain ⟨n2, hn2⟩ : ∃ n2 : Nat × Ct, n2 = (y.1 + 1, y.2) := ⟨_, rfl⟩
   obtain ⟨n3, hn3⟩ : ∃ n3 : Nat × Ct, n3 = (y.1 + 1, ctS y.2 (ygn (zdf l y.1) ((zdf l y.1).v.tmod 8))) := ⟨_, rfl⟩
   obtain ⟨n4, hn4⟩ : ∃ n4 : Nat × Ct, n4 = (y.1 + 1, ctS y.2 (ygn (zdf l y.1) y.2.ep)) := ⟨_, rfl⟩
   obtain ⟨n5, hn5⟩ : ∃ n5 : Nat × Ct, n5 = (y.1 + 1, ctS y.2 (zdf l y.1).t) := ⟨_, rfl⟩
   (cbv; try simp only [syT, true_and, and_true])
   try simp only [hE, hN, hG, hO, true_and]
   repeat' first | refine And.intro ?_ ?_ | refine fun (hh : (_ : Bool) = _) => ?_
   all_goals try
     (refine ⟨n0, ?_⟩
      (cbv; try simp only [syT, true_and, and_true])
      (subst hL; subst hQ; simp only [L2, L3, std] at *; try simp only [syS, reduceCtorEq, Int.reduceToNat, Int.reduceAdd, Int.reduceSub] at *)
      have hlt : ((fstP y : Nat) : Int) < (lenAc l : Nat) := by assumption
      have hlen : ((lenAc l : Nat) : Int) <= 30 := by assumption
      have hls : lenAc l = l.length := rfl
      have hy : PlI l y := hy
      obtain ⟨hi, hA, N0, N1, N2, hq⟩ := zgp hl hy hlt
      have K1 := kw hq.1 hq.2
      have K2 := kv hq.1 hq.2
      try simp only [N0, N1, N2, K1, K2, Nat.zero_add]
      have ht : (zdf l (fstP y)).t.length <= 9000 := (by have q : (((zdf l (fstP y)).t.length : Nat) : Int) <= 3000 := (by assumption); omega)
      subst hn0
      dsimp only [zta, fstP, ygn, yaj]
      refine ⟨by with_reducible rfl, by with_reducible rfl, by with_reducible rfl, by with_reducible rfl, by with_reducible rfl, by with_reducible rfl, by with_reducible rfl, by with_reducible rfl, by with_reducible rfl, by with_reducible rfl, by with_reducible rfl, by with_reducible rfl, by with_reducible rfl, by with_reducible rfl, by with_reducible rfl, by with_reducible rfl, by with_reducible rfl, by with_reducible rfl, by with_reducible rfl, by with_reducible rfl, by with_reducible rfl, by with_reducible rfl, by with_reducible rfl, plw (i := y.1) (by omega), yl8 hy hi hA.1 ht, ?_⟩
      have h7 : l.length - (y.1 + 1) + 1 <= l.length - y.1 := by omega
      exact h7)
   all_goals try
     (refine ⟨n1, ?_⟩
      (cbv; try simp only [syT, true_and, and_true])
      (subst hL; subst hQ; simp only [L2, L3, std] at *; try simp only [syS, reduceCtorEq, Int.reduceToNat, Int.reduceAdd, Int.reduceSub] at *)
      have hlt : ((fstP y : Nat) : Int) < (lenAc l : Nat) := by assumption
      have hlen : ((lenAc l : Nat) : Int) <= 30 := by assumption
      have hls : lenAc l = l.length := rfl
      have hy : PlI l y := hy
      obtain ⟨hi, hA, N0, N1, N2, hq⟩ := zgp hl hy hlt
      have K1 := kw hq.1 hq.2
      have K2 := kv hq.1 hq.2
      try simp only [N0, N1, N2, K1, K2, Nat.zero_add]
      have hf : cfE (zdf l (fstP y)).c = 0 := (by assumption); simp only [(yhx hf).1, (yhx hf).2, N1]
      subst hn1
      dsimp only [zta, fstP, ygn, yaj]
      refine ⟨by with_reducible rfl, by with_reducible rfl, by with_reducible rfl, by with_reducible rfl, by with_reducible rfl, by with_reducible rfl, by with_reducible rfl, by with_reducible rfl, by with_reducible rfl, by with_reducible rfl, by with_reducible rfl, by with_reducible rfl, by with_reducible rfl, by with_reducible rfl, by with_reducible rfl, by with_reducible rfl, by with_reducible rfl, by with_reducible rfl, by with_reducible rfl, by with_reducible rfl, by with_reducible rfl, by with_reducible rfl, by with_reducible rfl, plw (i := y.1) (by omega), yl8 hy hi hA.2.2.2.2.1 (Nat.le_trans (zv5 hf) (by decide)), ?_⟩
      have h7 : l.length - (y.1 + 1) + 1 <= l.length - y.1 := by omega
      exact h7)
   all_goals try
     (refine ⟨n2, ?_⟩
      (cbv; try simp only [syT, true_and, and_true])
      (subst hL; subst hQ; simp only [L2, L3, std] at *; try simp only [syS, reduceCtorEq, Int.reduceToNat, Int.reduceAdd, Int.reduceSub] at *)
      have hlt : ((fstP y : Nat) : Int) < (lenAc l : Nat) := by assumption
      have hlen : ((lenAc l : Nat) : Int) <= 30 := by assumption
      have hls : lenAc l = l.length := rfl
      have hy : PlI l y := hy
      obtain ⟨hi, hA, N0, N1, N2, hq⟩ := zgp hl hy hlt
      have K1 := kw hq.1 hq.2
      have K2 := kv hq.1 hq.2
      try simp only [N0, N1, N2, K1, K2, Nat.zero_add]
      have hf : ¬ cfE (zdf l (fstP y)).c = 0 := (by assumption); simp only [(yhw hf).1, (yhw hf).2]
      subst hn2
      dsimp only [zta, fstP, ygn, yaj]
      refine ⟨by with_reducible rfl, by with_reducible rfl, by with_reducible rfl, by with_reducible rfl, by with_reducible rfl, by with_reducible rfl, by with_reducible rfl, by with_reducible rfl, by with_reducible rfl, by with_reducible rfl, by with_reducible rfl, by with_reducible rfl, by with_reducible rfl, by with_reducible rfl, by with_reducible rfl, by with_reducible rfl, by with_reducible rfl, by with_reducible rfl, by with_reducible rfl, by with_reducible rfl, by with_reducible rfl, by with_reducible rfl, by with_reducible rfl, plw (i := y.1) (by omega), ywu hy hi, ?_⟩
      have h7 : l.length - (y.1 + 1) + 1 <= l.length - y.1 := by omega
      exact h7)
   all_goals try
     (refine ⟨n3, ?_⟩
      (cbv; try simp only [syT, true_and, and_true])
      (subst hL; subst hQ; simp only [L2, L3, std] at *; try simp only [syS, reduceCtorEq, Int.reduceToNat, Int.reduceAdd, Int.reduceSub] at *)
      have hlt : ((fstP y : Nat) : Int) < (lenAc l : Nat) := by assumption
      have hlen : ((lenAc l : Nat) : Int) <= 30 := by assumption
      have hls : lenAc l = l.length := rfl
      have hy : PlI l y := hy
      obtain ⟨hi, hA, N0, N1, N2, hq⟩ := zgp hl hy hlt
      have K1 := kw hq.1 hq.2
      have K2 := kv hq.1 hq.2
      try simp only [N0, N1, N2, K1, K2, Nat.zero_add]
      skip
      subst hn3
      dsimp only [zta, fstP, ygn, yaj]
      refine ⟨by with_reducible rfl, by with_reducible rfl, by with_reducible rfl, by with_reducible rfl, by with_reducible rfl, by with_reducible rfl, by with_reducible rfl, by with_reducible rfl, by with_reducible rfl, by with_reducible rfl, by with_reducible rfl, by with_reducible rfl, by with_reducible rfl, by with_reducible rfl, by with_reducible rfl, by with_reducible rfl, by with_reducible rfl, by with_reducible rfl, by with_reducible rfl, by with_reducible rfl, by with_reducible rfl, by with_reducible rfl, by with_reducible rfl, plw (i := y.1) (by omega), yni hy hi _, ?_⟩
      have h7 : l.length - (y.1 + 1) + 1 <= l.length - y.1 := by omega
      exact h7)
   all_goals try
     (refine ⟨n4, ?_⟩
      (cbv; try simp only [syT, true_and, and_true])
      (subst hL; subst hQ; simp only [L2, L3, std] at *; try simp only [syS, reduceCtorEq, Int.reduceToNat, Int.reduceAdd, Int.reduceSub] at *)
      have hlt : ((fstP y : Nat) : Int) < (lenAc l : Nat) := by assumption
      have hlen : ((lenAc l : Nat) : Int) <= 30 := by assumption
      have hls : lenAc l = l.length := rfl
      have hy : PlI l y := hy
      obtain ⟨hi, hA, N0, N1, N2, hq⟩ := zgp hl hy hlt
      have K1 := kw hq.1 hq.2
      have K2 := kv hq.1 hq.2
      try simp only [N0, N1, N2, K1, K2, Nat.zero_add]
      skip
      subst hn4
      dsimp only [zta, fstP, ygn, yaj]
      refine ⟨by with_reducible rfl, by with_reducible rfl, by with_reducible rfl, by with_reducible rfl, by with_reducible rfl, by with_reducible rfl, by with_reducible rfl, by with_reducible rfl, by with_reducible rfl, by with_reducible rfl, by with_reducible rfl, by with_reducible rfl, by with_reducible rfl, by with_reducible rfl, by with_reducible rfl, by with_reducible rfl, by with_reducible rfl, by with_reducible rfl, by with_reducible rfl, by with_reducible rfl, by with_reducible rfl, by with_reducible rfl, by with_reducible rfl, plw (i := y.1) (by omega), yni hy hi _, ?_⟩
      have h7 : l.length - (y.1 + 1) + 1 <= l.length - y.1 := by omega
      exact h7)
   all_goals try
     (refine ⟨n5, ?_⟩
      (cbv; try simp only [syT, true_and, and_true])
      (subst hL; subst hQ; simp only [L2, L3, std] at *; try simp only [syS, reduceCtorEq, Int.reduceToNat, Int.reduceAdd, Int.reduceSub] at *)
      have hlt : ((fstP y : Nat) : Int) < (lenAc l : Nat) := by assumption
      have hlen : ((lenAc l : Nat) : Int) <= 30 := by assumption
      have hls : lenAc l = l.length := rfl
      have hy : PlI l y := hy
      obtain ⟨hi, hA, N0, N1, N2, hq⟩ := zgp hl hy hlt
      have K1 := kw hq.1 hq.2
      have K2 := kv hq.1 hq.2
      try simp only [N0, N1, N2, K1, K2, Nat.zero_add]
      skip
      subst hn5
      dsimp only [zta, fstP, ygn, yaj]
      refine ⟨by with_reducible rfl, by with_reducible rfl, by with_reducible rfl, by with_reducible rfl, by with_reducible rfl, by with_reducible rfl, by with_reducible rfl, by with_reducible rfl, by with_reducible rfl, by with_reducible rfl, by with_reducible rfl, by with_reducible rfl, by with_reducible rfl, by with_reducible rfl, by with_reducible rfl, by with_reducible rfl, by with_reducible rfl, by with_reducible rfl, by with_reducible rfl, by with_reducible rfl, by with_reducible rfl, by with_reducible rfl, by with_reducible rfl, plw (i := y.1) (by omega), yni hy hi _, ?_⟩
      have h7 : l.length - (y.1 + 1) + 1 <= l.length - y.1 := by omega
      exact h7)
   all_goals (try (subst hL; subst hQ; simp only [L2, L3, std] at *; try simp only [syS, reduceCtorEq, Int.reduceToNat, Int.reduceAdd, Int.reduceSub] at *))
   all_goals try exact ⟨Int.natCast_nonneg _, by assumption⟩
   all_goals try
     (have hlt : ((fstP y : Nat) : Int) < (lenAc l : Nat) := by assumption
      have hlen : ((lenAc l : Nat) : Int) <= 30 := by assumption
      have hls : lenAc l = l.length := rfl
      have hy : PlI l y := hy
      obtain ⟨hi, hA, N0, N1, N2, hq⟩ := zgp hl hy hlt
      have K1 := kw hq.1 hq.2
      have K2 := kv hq.1 hq.2
      have ht : (((zdf l (fstP y)).t.length : Nat) : Int) <= 3000 := by assumption
      have ht : (zdf l (fstP y)).t.length <= 3000 := by omega
      have M3 := yd5 hA (yx9 hA.1) ht
      have M4 := yd5 hA hy.ep ht
      try simp only [N0, N1, N2, K1, K2, Nat.zero_add]
      first
        | exact hy.ep
        | exact hy.ver
        | exact hA.1
        | exact hA.2.2.2.2.1
        | exact trivial
        | exact ⟨by assumption, hA.2.2.2.2⟩
        | exact zz1 (by assumption)
        | exact hq
        | exact kn _ (by omega)
        | exact yr0 _ _
        | exact M3.1
        | exact M3.2
        | exact M4.1
        | exact M4.2
        | exact (by decide : ¬ (4 : Int) = 0)
        | exact (by decide : ¬ (8 : Int) = 0)
        | (show (zdf l (fstP y)).t.length <= 1000000; omega)
        | (show (zdf l (fstP y)).t.length <= 900000; omega)
        | (have hb := hy.bod; show y.2.bod.length <= 1000000; omega)
        | (have hc := zv5 (x := (zdf l (fstP y)).c) (by assumption); show (cfT (zdf l (fstP y)).c).length <= 1000000; omega)
        | (have hf : cfE (zdf l (fstP y)).c = 0 := by assumption
           simp only [N0, N1, N2, (yhx hf).1, (yhx hf).2, hf, zq9, not_true_eq_false, reduceCtorEq] at hh
           done)
        | (have hf : ¬ cfE (zdf l (fstP y)).c = 0 := by assumption
           simp only [N0, N1, N2, (yhw hf).1, (yhw hf).2, zq9, not_true_eq_false, reduceCtorEq] at hh
           done)
        | (simp only [N0, N1, N2, zq9, not_true_eq_false, reduceCtorEq] at hh
           done)
        | exact absurd rfl hh)
theorem opens_Ac {H : Type} {enc : TypeId × Value -> H} {W : World} : zeb enc Tryz.prog W 46 Ac 9 (acC std) ykr :=
 (zcn Tryz.underlying46 (by kernel_rfl) (zah rfl (zde Tryz.underlying5 (by kernel_rfl)) (zah rfl (zde Tryz.underlying22 (by kernel_rfl)) (zah rfl (zde Tryz.underlying22 (by kernel_rfl)) (zah rfl (zg2 Tryz.underlying9 (by kernel_rfl)) (zah rfl yi8 (zah rfl (zde Tryz.underlying5 (by kernel_rfl)) (zah rfl (zyo Tryz.underlying4 (by kernel_rfl)) (zdr _))))))))).turn
   (fun y => Ac.mk y.1 y.2.1 y.2.2.1 y.2.2.2.1 y.2.2.2.2.1 y.2.2.2.2.2.1 y.2.2.2.2.2.2.1)
   (fun y h => by
     have a1 := bounds_u8 h.1
     have a2 := bounds_u64 h.2.1
     have a3 := bounds_u64 h.2.2.1
     have a4 := bounds_u8 h.2.2.2.2.2.1
     exact ⟨⟨a2.1, by show y.2.1 < _; omega⟩, ⟨a3.1, by show y.2.2.1 < _; omega⟩, ⟨a1.1, a1.2⟩, ⟨a4.1, a4.2⟩, h.2.2.2.2.1⟩)
   (fun y h j hj v r => by match j, hj with | 0, _ => exact r | 1, _ => exact r | 2, _ => exact r | 3, _ => exact r | 4, _ => exact r | 5, _ => exact r | 6, _ => exact r | 7, _ => exact r | 8, _ => exact r)
theorem law_ControlPlays (l : List Ac) (hl : l.length <= maxLen /\ ∀ y ∈ l, ykr y) : za7 Tryz.prog 4 [.lst 9 l.length (avL (acC std) l)] (.bool true) := by
 refine ygh (fun hp D vs hr => ?_) (yi1 l hl.2)
 refine ⟨by rw [<- hr.1]; rfl, fun i z v hz hv => ?_⟩
 match i, hz with
 | 0, hz =>
   cases hz
   exact zjt (hr.2 0 _ v rfl hv) (fun i j hi hj => by rw [avL, List.getElem?_eq_getElem hi, zdf, List.getD_eq_getElem?_getD, List.getElem?_eq_getElem hi]; rfl)
end Sy
end Go.Proofs.YtcgikjfloloekaaGreatDoor
namespace Go.Proofs.YtcgikjfloloekaaGreatDoor
namespace Sy
open Go
set_option linter.unusedVariables false
theorem zud {P : Program} {w : World} {n : String} {d : DataW Unit} : ∀ {l : List (String × DataW Unit)} {ps : List MemPlace}, DataW.LaidVars P w l ps -> (n, d) ∈ l ->
   ∃ g t cs fuel p, P.globalNamed n = some g /\ (P.globals[g]?).map (·.type) = some t /\ w.var? P n = some cs /\ DataW.trod (fun _ => ()) P w 0 (fun _ => true) false fuel t cs.toList = some (d, p)
 | x :: r, ps, h, hm => by
   obtain ⟨n', d'⟩ := x
   obtain ⟨g, t, cs, fuel, p, q, h1, h2, h3, h4, h5, _⟩ := h
   rcases List.mem_cons.1 hm with e | hm
   · cases e
     exact ⟨g, t, cs, fuel, p, h1, h2, h3, h4⟩
   · exact zud h5 hm
theorem laid_tab {P : Program} {w : World} {name : String} {k : IntKind} {zs : List Int} {l : List (String × DataW Unit)} (h : laidMet P l w) (hm : (name, Lib.tabData k zs) ∈ l) {g : Nat} {t e : TypeId} {n : Nat}
   (hg : P.globalNamed name = some g) (hty : (P.globals[g]?).map (·.type) = some t) (ht : P.underlying t = some (.array n e)) (he : P.underlying e = some (.int k)) (hce : P.cellsOf e = 1) (hct : P.cellsOf t = n) : Lib.TabIs P w name k zs := by
 obtain ⟨ps, hv, _⟩ := h
 obtain ⟨g', t', cs, fuel, p, hg', ht', hvar, hd⟩ := zud hv hm
 obtain rfl := Option.some.inj (hg.symm.trans hg')
 obtain rfl := Option.some.inj (hty.symm.trans ht')
 unfold Lib.TabIs
 rw [hvar, <- Lib.cells_of_tab ht he hce hct hd]
theorem laid_ifc {P : Program} {w : World} {name nm : String} {d : DataW Unit} {l : List (String × DataW Unit)} (h : laidMet P l w) (hm : (name, .iface nm d) ∈ l) {g : Nat} {t : TypeId} {ms : Array (String × TypeId)}
   (hg : P.globalNamed name = some g) (hty : (P.globals[g]?).map (·.type) = some t) (ht : P.underlying t = some (.interface ms)) : ∃ te pe, w.var? P name = some #[.iface te pe] := by
 obtain ⟨ps, hv, _⟩ := h
 obtain ⟨g', t', cs, fuel, p, hg', ht', hvar, hd⟩ := zud hv hm
 obtain rfl := Option.some.inj (hg.symm.trans hg')
 obtain rfl := Option.some.inj (hty.symm.trans ht')
 obtain ⟨f2, u, v, e, _, _⟩ := iface_of_trod ht hd
 refine ⟨u, v, ?_⟩
 rw [hvar]
 obtain ⟨l0⟩ := cs
 have e : l0 = [.iface u v] := e
 rw [e]
end Sy
end Go.Proofs.YtcgikjfloloekaaGreatDoor
