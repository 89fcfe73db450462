/-strings.Index, Count (of one byte), Compare, Join: the kit's contracts as summaries; Cut, Split; a text parted by a byte. strconv.FormatUint at base 10, out of the kit's contracts of its parts; and what stands between these and the texts behind.-/
import Derived.Test.YthppjaoicibeiaaGreatDoorM3
import Derived.Test.YthppjaoicibeiaaGreatDoorShelf
import Derived.Shelf.Strconv.Itoa3
import Derived.Lib.AppendIntMem
import Derived.Lib.Walk
import Derived.WalkKit
import Derived.BigCall
import Derived.BigGuard
import Derived.Lib.AtoiErrMem
import Derived.Lib.ParseIntBCases
import Derived.ChangeArms
import Derived.ChangeSlices
import Derived.OpenShut
import Derived.WideShapes
import Derived.Lib.Builder
namespace Go.Proofs.YthppjaoicibeiaaGreatDoor
namespace Sy
open Go Go.RowKit
set_option maxRecDepth 100000
set_option linter.unusedSimpArgs false
set_option linter.unusedVariables false
def zay (c : UInt8) : List UInt8 -> List (List UInt8)
 | [] => [[]]
 | x :: s => if x = c then [] :: zay c s else match zay c s with
   | y :: r => (x :: y) :: r
   | [] => [[x]]
theorem zq2 (c : UInt8) : ∀ s, zay c s ≠ []
 | [] => by simp [zay]
 | x :: s => by
   unfold zay
   split
   · simp
   · split <;> simp
theorem zko {c : UInt8} : ∀ {s : List UInt8} {m : Nat}, (∀ k, k < m -> s[k]? ≠ some c) -> s[m]? = some c -> zay c s = s.take m :: zay c (s.drop (m + 1))
 | [], m, _, h => by simp at h
 | x :: s, 0, _, h => by
   simp at h; subst h
   simp [zay]
 | x :: s, m + 1, h0, h => by
   have hx : x ≠ c := by
     have := h0 0 (by omega)
     intro e; subst e; simp at this
   have ih := zko (s := s) (m := m) (fun k hk => by have := h0 (k + 1) (by omega); simpa using this) (by simpa using h)
   rw [zay, if_neg hx, ih]
   simp
theorem zfq {c : UInt8} : ∀ {s : List UInt8}, (∀ k : Nat, s[k]? ≠ some c) -> zay c s = [s]
 | [], _ => rfl
 | x :: s, h0 => by
   have hx : x ≠ c := by
     have := h0 0
     intro e; subst e; simp at this
   have ih := zfq (s := s) (fun k => by have := h0 (k + 1); simpa using this)
   rw [zay, if_neg hx, ih]
theorem zb5 (c : UInt8) : ∀ s : List UInt8, (zay c s).length = s.count c + 1
 | [] => by simp [zay]
 | x :: s => by
   have ih := zb5 c s
   unfold zay
   by_cases hx : x = c
   · rw [if_pos hx, List.length_cons, ih, hx, List.count_cons_self]
   · rw [if_neg hx, List.count_cons_of_ne (fun e => hx e)]
     cases hs : zay c s with
     | nil => exact absurd hs (zq2 c s)
     | cons y r => rw [hs] at ih; simpa using ih
theorem ycg {s : List UInt8} {c : UInt8} (h : Lib.indexByte s c < 0) : ∀ k : Nat, s[k]? ≠ some c := by
 have := Lib.indexByte_ge s c
 exact Lib.indexByte_none (by omega)
theorem zqv {s : List UInt8} {c : UInt8} (h : ¬ Lib.indexByte s c < 0) : s[(Lib.indexByte s c).toNat]? = some c /\ (∀ k, k < (Lib.indexByte s c).toNat -> s[k]? ≠ some c) /\ (Lib.indexByte s c).toNat < s.length := by
 obtain ⟨o, ho⟩ : ∃ o : Nat, Lib.indexByte s c = o := ⟨(Lib.indexByte s c).toNat, by omega⟩
 have h1 := Lib.indexByte_some ho
 have e : (Lib.indexByte s c).toNat = o := by omega
 rw [e]
 exact ⟨h1.1, h1.2, (List.getElem?_eq_some_iff.1 h1.1).1⟩
theorem ytf (s : List UInt8) (c : UInt8) : -1 <= Lib.indexByte s c /\ Lib.indexByte s c <= s.length := by
 have h0 := Lib.indexByte_ge s c
 by_cases h : Lib.indexByte s c < 0
 · omega
 · have := (zqv h).2.2; omega
def by1 (sep : List UInt8) : UInt8 := sep.headD 0
def zsp (sep : List UInt8) : Prop := sep.length = 1
theorem zso {sep : List UInt8} (h : zsp sep) : sep = [by1 sep] := by
 match sep, h with
 | [c], _ => rfl
def zj0 (s sep : List UInt8) : Int := Lib.indexByte s (by1 sep)
def cntZ (s sep : List UInt8) : Int := s.count (by1 sep)
def zbg (s sep : List UInt8) : List (List UInt8) := zay (by1 sep) s
def zhv (l : List (List UInt8)) : Nat := l.length
def yh8 (L : zaa) (l : List (List UInt8)) : AV := .lst 1 (L zhv l) (fun i _ => .str (L2 L zdd l i))
def yo1 (L : zaa) : zb4 := (184, fun xs => match xs with | [.str s, .str sep] => some (L zsp sep, .int .i64 (L2 L zj0 s sep)) | _ => none)
def yo5 (L : zaa) : zb4 := (207, fun xs => match xs with | [.str s, .str sep] => some (L zsp sep, .int .i64 (L2 L zj0 s sep)) | _ => none)
def ypc (L : zaa) : zb4 := (206, fun xs => match xs with | [.str s, .str sep] => some (L zsp sep, .int .i64 (L2 L cntZ s sep)) | _ => none)
theorem yhq : zao Tryz.prog (yo1 std) := by
 intro xs p r h hp
 dsimp only [yo1] at h |-
 split at h <;> cases h
 try simp only [L2, L3, std] at hp |-
 rename_i s sep
 have h1 := zso (show zsp sep from hp)
 rw [h1]
 refine zce (fn := Tryz.f184) rfl rfl (by kernel_rfl) (ztz (zbu _) (zbu _)) (yca _ _) (fun w => (Tryz.strings_Index_one ⟨s.toArray⟩ (by1 sep) w).mono ?_)
 rintro e w' ⟨rfl, rfl⟩
 exact ⟨rfl, Below.refl _ _⟩
theorem yht : zao Tryz.prog (yo5 std) := by
 intro xs p r h hp
 dsimp only [yo5] at h |-
 split at h <;> cases h
 try simp only [L2, L3, std] at hp |-
 rename_i s sep
 have h1 := zso (show zsp sep from hp)
 rw [h1]
 refine zce (fn := Tryz.f207) rfl rfl (by kernel_rfl) (ztz (zbu _) (zbu _)) (yca _ _) (fun w => (Tryz.stringslite_Index_one ⟨s.toArray⟩ (by1 sep) w).mono ?_)
 rintro e w' ⟨rfl, rfl⟩
 exact ⟨rfl, Below.refl _ _⟩
theorem yiq : zao Tryz.prog (ypc std) := by
 intro xs p r h hp
 dsimp only [ypc] at h |-
 split at h <;> cases h
 try simp only [L2, L3, std] at hp |-
 rename_i s sep
 have h1 := zso (show zsp sep from hp)
 rw [h1]
 refine zce (fn := Tryz.f206) rfl rfl (by kernel_rfl) (ztz (zbu _) (zbu _)) (yca _ _) (fun w => (Tryz.strings_Count_one ⟨s.toArray⟩ (by1 sep) w).mono ?_)
 rintro e w' ⟨rfl, rfl⟩
 exact ⟨rfl, Below.refl _ _⟩
def yik (s sep : List UInt8) : List UInt8 := if zj0 s sep < 0 then s else s.take (zj0 s sep).toNat
def ydl (s sep : List UInt8) : List UInt8 := if zj0 s sep < 0 then [] else s.drop ((zj0 s sep).toNat + 1)
def yua (s sep : List UInt8) : Bool := decide (0 <= zj0 s sep)
def ydj (L : zaa) : zb4 := (195, fun xs => match xs with | [.str s, .str sep] => some (L zsp sep /\ L2 L upto 1000000000 s, .tup [.str (L2 L yik s sep), .str (L2 L ydl s sep), .bool (L2 L yua s sep)]) | _ => none)
def yp6 (L : zaa) : zb4 := (171, fun xs => match xs with | [.str s, .str sep] => some (L zsp sep /\ L2 L upto 1000000000 s, .tup [.str (L2 L yik s sep), .str (L2 L ydl s sep), .bool (L2 L yua s sep)]) | _ => none)
theorem ydk : zao Tryz.prog (ydj std) := by
 intro xs p r h hp
 dsimp only [ydj] at h |-
 split at h <;> cases h
 try simp only [L2, L3, std] at hp |-
 rename_i s sep
 obtain ⟨p1, p2⟩ : zsp sep /\ s.length <= 1000000000 := hp
 refine za6 (T := tt) (S := fun L => zad [yo5 L]) (lo := noA) (lb := noA) 5 (fn := Tryz.f195) rfl rfl (by kernel_rfl) (by kernel_rfl) rfl zab (za1 ⟨yht, trivial⟩) (by kernel_rfl) ?_
 (intro L P1 Q1 hL hP hQ; cbv; subst hL; simp only [L2, L3, std, syT]; subst hQ)
 (simp only [syS, reduceCtorEq, Int.reduceToNat, Int.reduceAdd, Int.reduceSub])
 have hl := ytf s (by1 sep)
 refine ⟨p1, fun h => ?_, fun h => ?_⟩
 · have := (zqv (c := by1 sep) (s := s) (by show ¬ zj0 s sep < 0; omega)).2.2
   have e0 : ¬ zj0 s sep < 0 := by omega
   have e1 : (sep.length : Int) = 1 := by rw [p1]; rfl
   have hl : -1 <= zj0 s sep /\ zj0 s sep <= s.length := hl
   have this : (zj0 s sep).toNat < s.length := this
   rw [e1, show (zj0 s sep + 1 + 9223372036854775808) % 18446744073709551616 - 9223372036854775808 = zj0 s sep + 1 by omega]
   refine ⟨by omega, by omega, (if_neg e0).symm, ?_, (decide_eq_true h).symm⟩
   rw [ydl, if_neg e0, show (zj0 s sep + 1).toNat = (zj0 s sep).toNat + 1 by omega]
 · exact ⟨(if_pos (by omega)).symm, (if_pos (by omega)).symm, (decide_eq_false (by omega)).symm⟩
theorem yih : zao Tryz.prog (yp6 std) := by
 intro xs p r h hp
 dsimp only [yp6] at h |-
 split at h <;> cases h
 try simp only [L2, L3, std] at hp |-
 rename_i s sep
 obtain ⟨p1, p2⟩ : zsp sep /\ s.length <= 1000000000 := hp
 refine za6 (T := tt) (S := fun L => zad [ydj L]) (lo := noA) (lb := noA) 5 (fn := Tryz.f171) rfl rfl (by kernel_rfl) (by kernel_rfl) rfl zab (za1 ⟨ydk, trivial⟩) (by kernel_rfl) ?_
 (intro L P1 Q1 hL hP hQ; cbv; subst hL; simp only [L2, L3, std, syT]; subst hQ)
 (simp only [syS, reduceCtorEq, Int.reduceToNat, Int.reduceAdd, Int.reduceSub])
 exact ⟨p1, p2⟩
def zek (c : UInt8) (s : List UInt8) : Nat -> List UInt8
 | 0 => s
 | i + 1 => (zek c s i).drop ((Lib.indexByte (zek c s i) c).toNat + 1)
theorem zge (c : UInt8) (s : List UInt8) : ∀ i, i <= s.count c -> zay c (zek c s i) = (zay c s).drop i /\ (zek c s i).length <= s.length
 | 0, _ => by simp [zek]
 | i + 1, h => by
   obtain ⟨ih, hl⟩ := zge c s i (by omega)
   have hlen := congrArg List.length ih
   rw [zb5, List.length_drop, zb5] at hlen
   have hn : ¬ Lib.indexByte (zek c s i) c < 0 := by
     intro hn
     have h0 := zfq (ycg hn)
     have := congrArg List.length h0
     rw [zb5] at this
     simp at this
     omega
   obtain ⟨h1, h2, h3⟩ := zqv hn
   have e := zko h2 h1
   rw [ih] at e
   have e2 := congrArg (List.drop 1) e
   rw [List.drop_drop, List.drop_succ_cons, List.drop_zero] at e2
   refine ⟨by rw [zek, <- e2], ?_⟩
   rw [zek, List.length_drop]; omega
theorem zo6 {c : UInt8} {s : List UInt8} {i : Nat} (h : i < s.count c) : 0 <= Lib.indexByte (zek c s i) c /\ (Lib.indexByte (zek c s i) c).toNat < (zek c s i).length /\ zdd (zay c s) i = (zek c s i).take (Lib.indexByte (zek c s i) c).toNat := by
 obtain ⟨ih, hl⟩ := zge c s i (by omega)
 have hlen := congrArg List.length ih
 rw [zb5, List.length_drop, zb5] at hlen
 have hn : ¬ Lib.indexByte (zek c s i) c < 0 := by
   intro hn
   have h0 := zfq (ycg hn)
   have := congrArg List.length h0
   rw [zb5] at this
   simp at this
   omega
 obtain ⟨h1, h2, h3⟩ := zqv hn
 refine ⟨by omega, h3, ?_⟩
 have e := zko h2 h1
 rw [ih] at e
 have hlt : i < (zay c s).length := by rw [zb5]; omega
 rw [zdd, List.getD_eq_getElem?_getD, List.getElem?_eq_getElem hlt]
 rw [List.drop_eq_getElem_cons hlt] at e
 exact (List.cons.inj e).1
theorem yal (c : UInt8) (s : List UInt8) : zdd (zay c s) (s.count c) = zek c s (s.count c) := by
 obtain ⟨ih, hl⟩ := zge c s (s.count c) (Nat.le_refl _)
 have hlen := congrArg List.length ih
 rw [zb5, List.length_drop, zb5] at hlen
 have hc : (zek c s (s.count c)).count c = 0 := by omega
 have h0 : zay c (zek c s (s.count c)) = [zek c s (s.count c)] := zfq (fun k hk => by
   have := List.count_pos_iff.2 (List.mem_of_getElem? hk)
   omega)
 rw [h0] at ih
 have hlt : s.count c < (zay c s).length := by rw [zb5]; omega
 rw [zdd, List.getD_eq_getElem?_getD, List.getElem?_eq_getElem hlt]
 rw [List.drop_eq_getElem_cons hlt] at ih
 exact (List.cons.inj ih).1.symm
def zfr (s sep : List UInt8) (i : Nat) : List UInt8 := zek (by1 sep) s i
def zyc (s sep : List UInt8) (i j : Nat) : List UInt8 := if j < i then zdd (zbg s sep) j else []
def cntB (s sep : List UInt8) : Nat := s.count (by1 sep)
theorem yud (s sep : List UInt8) : cntB s sep <= s.length := List.count_le_length
def splA (L : zaa) (s sep : List UInt8) : Nat -> St -> Option Ann := fun id st => match id with
 | 0 => some ⟨Nat, fun i => [(0, .str (L3 L zfr s sep i)), (10, .int .i64 (L zan i)), (9, .sl 900 1 0 (L (fun n : Nat => n + 1) (L2 L cntB s sep))), (3, .int .i64 (L zan (L2 L cntB s sep)))],
     fun i => [(900, .row 9 1 (L (fun n : Nat => n + 1) (L2 L cntB s sep)) (fun j _ => .str (L (L3 L zyc s sep i) j)))], [1, 2], [],
     fun i => L3 L (fun s sep i => i <= cntB s sep) s sep i, fun i => L3 L (fun s sep i => cntB s sep - i) s sep i⟩
 | _ => none
theorem yjw (q : Nat) (v : List UInt8) (f : Nat -> List UInt8) (i j : Nat) (h : j < 1) : over std q 0 1 [.str v] (fun i _ => .str (f i)) i j = .str (if i = q then v else f i) := by
 have : j = 0 := by omega
 subst this
 rw [zf8, if_pos ⟨Nat.le_refl _, by omega⟩]
 by_cases h : i = q
 · subst h; simp [za7, zgv, L3, std, zbm]
 · simp [zah h, zgv, L3, std, zbm, h]
def nev (f : Nat) : zb4 := (f, fun _ => some (False, .dead))
theorem ygu (f : Nat) : zao Tryz.prog (nev f) := by
 intro xs p r h hp
 cases h
 exact hp.elim
def yod (L : zaa) : zb4 := (182, fun xs => match xs with
 | [.str s, .str sep, .int .i64 a, .int .i64 b] => some (L zsp sep /\ L2 L upto 1000000000 s /\ L2 L (fun a b : Int => a = 0 /\ b = -1) a b, yh8 L (L2 L zbg s sep))
 | _ => none)
theorem yhz : zao Tryz.prog (yod std) := by
 intro xs p r h hp
 dsimp only [yod] at h |-
 split at h <;> cases h
 try simp only [L2, L3, std] at hp |-
 rename_i s sep a b
 obtain ⟨p1, p2, rfl, rfl⟩ : zsp sep /\ s.length <= 1000000000 /\ a = 0 /\ b = -1 := hp
 refine za6 (T := tt) (S := fun L => zad [yo1 L, ypc L, nev 205]) (lo := fun L => splA L s sep) (lb := noA) 5 (fn := Tryz.f182) rfl rfl (by kernel_rfl) (by kernel_rfl) rfl zab (za1 ⟨yhq, yiq, ygu _, trivial⟩) (by kernel_rfl) ?_
 intro L P' Q' hL hP hQ
 (cbv; try simp only [syT, true_and, and_true])
 have hc : cntZ s sep = (cntB s sep : Int) := rfl
 have hle := yud s sep
 have hsep : sep ≠ [] := fun e => by rw [e] at p1; cases p1
 refine ⟨fun h => ?_, fun h1 => ⟨fun h => ?_, fun h2 => ⟨fun h3 => ⟨?_, ?_, ⟨0, ?_⟩, fun i hi => ?_⟩, fun h3 => ?_⟩⟩⟩
 · (subst hL; subst hQ; simp only [L2, L3, std] at *; try simp only [syS, reduceCtorEq, Int.reduceToNat, Int.reduceAdd, Int.reduceSub] at *)
 · (subst hL; subst hQ; simp only [L2, L3, std] at *; try simp only [syS, reduceCtorEq, Int.reduceToNat, Int.reduceAdd, Int.reduceSub] at *)
   exact absurd h hsep
 · (subst hL; subst hQ; simp only [L2, L3, std] at *; try simp only [syS, reduceCtorEq, Int.reduceToNat, Int.reduceAdd, Int.reduceSub] at *)
   exact p1
 · (subst hL; subst hQ; simp only [L2, L3, std] at *; try simp only [syS, reduceCtorEq, Int.reduceToNat, Int.reduceAdd, Int.reduceSub] at *)
   rw [hc]
   omega
 · (cbv; try simp only [syT, true_and, and_true])
   (subst hL; subst hQ; simp only [L2, L3, std] at *; try simp only [syS, reduceCtorEq, Int.reduceToNat, Int.reduceAdd, Int.reduceSub] at *)
   rw [hc, show min (((cntB s sep : Nat) + 1 + 9223372036854775808 : Int) % 18446744073709551616 - 9223372036854775808) (((s.length : Nat) + 1 + 9223372036854775808 : Int) % 18446744073709551616 - 9223372036854775808) = (cntB s sep : Nat) + 1 by omega]
   refine ⟨⟨by omega, fun k j hk hj => ?_⟩, by omega, by omega, rfl, Nat.zero_le _⟩
   rw [zyc, if_neg (by omega)]
   match j, hj with
   | 0, _ => rfl
 · cbv at hi
   (cbv; try simp only [syT, true_and, and_true])
   refine ⟨fun h4 => ⟨?_, fun h5 => ?_, fun h5 => ⟨?_, ?_, ?_, i + 1, ?_⟩⟩, fun h4 => ⟨?_, ?_, ?_⟩⟩
   · (subst hL; subst hQ; simp only [L2, L3, std] at *; try simp only [syS, reduceCtorEq, Int.reduceToNat, Int.reduceAdd, Int.reduceSub] at *)
     exact p1
   · (subst hL; subst hQ; simp only [L2, L3, std] at *; try simp only [syS, reduceCtorEq, Int.reduceToNat, Int.reduceAdd, Int.reduceSub] at *)
     obtain ⟨r1, r2, r3⟩ := zo6 (c := by1 sep) (s := s) (i := i) (show i < cntB s sep by omega)
     exfalso
     have h5 : Lib.indexByte (zek (by1 sep) s i) (by1 sep) < 0 := h5
     omega
   · (subst hL; subst hQ; simp only [L2, L3, std] at *; try simp only [syS, reduceCtorEq, Int.reduceToNat, Int.reduceAdd, Int.reduceSub] at *)
     obtain ⟨r1, r2, r3⟩ := zo6 (c := by1 sep) (s := s) (i := i) (show i < cntB s sep by omega)
     obtain ⟨q1, q2⟩ := zge (by1 sep) s i hi
     have r1 : 0 <= zj0 (zfr s sep i) sep := r1
     have r2 : (zj0 (zfr s sep i) sep).toNat < (zfr s sep i).length := r2
     have q2 : (zfr s sep i).length <= s.length := q2
     omega
   · (subst hL; subst hQ; simp only [L2, L3, std] at *; try simp only [syS, reduceCtorEq, Int.reduceToNat, Int.reduceAdd, Int.reduceSub] at *)
     omega
   · (subst hL; subst hQ; simp only [L2, L3, std] at *; try simp only [syS, reduceCtorEq, Int.reduceToNat, Int.reduceAdd, Int.reduceSub] at *)
     obtain ⟨r1, r2, r3⟩ := zo6 (c := by1 sep) (s := s) (i := i) (show i < cntB s sep by omega)
     obtain ⟨q1, q2⟩ := zge (by1 sep) s i hi
     have r1 : 0 <= zj0 (zfr s sep i) sep := r1
     have r2 : (zj0 (zfr s sep i) sep).toNat < (zfr s sep i).length := r2
     have q2 : (zfr s sep i).length <= s.length := q2
     have e1 : (sep.length : Int) = 1 := by rw [p1]; rfl
     omega
   · (cbv; try simp only [syT, true_and, and_true])
     (subst hL; subst hQ; simp only [L2, L3, std] at *; try simp only [syS, reduceCtorEq, Int.reduceToNat, Int.reduceAdd, Int.reduceSub] at *)
     obtain ⟨r1, r2, r3⟩ := zo6 (c := by1 sep) (s := s) (i := i) (show i < cntB s sep by omega)
     obtain ⟨q1, q2⟩ := zge (by1 sep) s i hi
     have r1 : 0 <= zj0 (zfr s sep i) sep := r1
     have r2 : (zj0 (zfr s sep i) sep).toNat < (zfr s sep i).length := r2
     have q2 : (zfr s sep i).length <= s.length := q2
     have e1 : (sep.length : Int) = 1 := by rw [p1]; rfl
     refine ⟨fun k j hk hj => ?_, by omega, ?_, by omega, by omega⟩
     · rw [yjw _ _ _ _ _ hj]
       congr 1
       by_cases hki : k = i
       · subst hki
         rw [if_pos rfl, zyc, if_pos (by omega), show (zj0 (zfr s sep k) sep + 0 + 9223372036854775808) % 18446744073709551616 - 9223372036854775808 = zj0 (zfr s sep k) sep by omega]
         exact r3.symm
       · rw [if_neg hki, zyc, zyc]
         by_cases hlt : k < i
         · rw [if_pos hlt, if_pos (by omega)]
         · rw [if_neg hlt, if_neg (by omega)]
     · rw [e1, show ((zj0 (zfr s sep i) sep + 1 + 9223372036854775808) % 18446744073709551616 - 9223372036854775808).toNat = (zj0 (zfr s sep i) sep).toNat + 1 by omega]
       rfl
   · (subst hL; subst hQ; simp only [L2, L3, std] at *; try simp only [syS, reduceCtorEq, Int.reduceToNat, Int.reduceAdd, Int.reduceSub] at *)
     omega
   · (subst hL; subst hQ; simp only [L2, L3, std] at *; try simp only [syS, reduceCtorEq, Int.reduceToNat, Int.reduceAdd, Int.reduceSub] at *)
     omega
   · (subst hL; subst hQ; simp only [L2, L3, std] at *; try simp only [syS, reduceCtorEq, Int.reduceToNat, Int.reduceAdd, Int.reduceSub] at *)
     have hi' : i = cntB s sep := by omega
     subst hi'
     rw [show ((cntB s sep : Nat) + 1 + 9223372036854775808 : Int) % 18446744073709551616 - 9223372036854775808 = ((cntB s sep + 1 : Nat) : Int) by omega, Int.toNat_natCast]
     show zgw (.lst 1 (zay (by1 sep) s).length _) _
     rw [zi1, zb5]
     refine ⟨rfl, fun k j hk hj => ?_⟩
     rw [yjw _ _ _ _ _ hj]
     congr 1
     by_cases hki : k = cntB s sep
     · rw [if_pos hki, hki]; exact (yal _ _).symm
     · have hk : k < cntB s sep + 1 := hk
       rw [if_neg hki, zyc, if_pos (by omega)]
       rfl
 · (subst hL; subst hQ; simp only [L2, L3, std] at *; try simp only [syS, reduceCtorEq, Int.reduceToNat, Int.reduceAdd, Int.reduceSub] at *)
   exact absurd h3 (by decide)
def yfh (L : zaa) : zb4 := (143, fun xs => match xs with | [.str s, .str sep] => some (L zsp sep /\ L2 L upto 1000000000 s, yh8 L (L2 L zbg s sep)) | _ => none)
theorem zuj : zao Tryz.prog (yfh std) := by
 intro xs p r h hp
 dsimp only [yfh] at h |-
 split at h <;> cases h
 try simp only [L2, L3, std] at hp |-
 rename_i s sep
 obtain ⟨p1, p2⟩ : zsp sep /\ s.length <= 1000000000 := hp
 refine za6 (T := tt) (S := fun L => zad [yod L]) (lo := noA) (lb := noA) 5 (fn := Tryz.f143) rfl rfl (by kernel_rfl) (by kernel_rfl) rfl zab (za1 ⟨yhz, trivial⟩) (by kernel_rfl) ?_
 (intro L P1 Q1 hL hP hQ; cbv; subst hL; simp only [L2, L3, std, syT]; subst hQ)
 (simp only [syS, reduceCtorEq, Int.reduceToNat, Int.reduceAdd, Int.reduceSub])
 refine ⟨⟨p1, p2⟩, ?_⟩
 show zgw (.lst 1 (zhv (zbg s sep)) _) _
 rw [zi1]
 exact ⟨rfl, fun i j hi hj => rfl⟩
def toS : AV -> List UInt8
 | .str s => s
 | _ => []
def zb7 (n : Nat) (get : Nat -> Nat -> AV) : List (List UInt8) := (List.range n).map fun i => toS (get i 0)
def jnZ (sep : List UInt8) (x : AV) : List UInt8 := match x with
 | .lst _ n get => Lib.join (zb7 n get) sep
 | _ => []
def yvj (sep : List UInt8) (x : AV) : Prop := match x with
 | .lst 1 n get => (∀ i, i < n -> ∃ s, get i 0 = .str s) /\ n <= 1000000 /\ (Lib.join (zb7 n get) sep).length <= 140737488355328
 | .nils => True
 | _ => False
def yvi (L : zaa) : zb4 := (88, fun xs => match xs with | [x, .str sep] => some (L2 L yvj sep x, .str (L2 L jnZ sep x)) | _ => none)
theorem ykm {h : Array Obj} {D : Nat -> Prop} {x y : AV} {vs : Array Value} (hr : RL h D zam [x, y] vs) : ∃ a b, vs = #[a, b] /\ R h D zam x a /\ R h D zam y b := by
 obtain ⟨hl, hr⟩ := hr
 obtain ⟨a, b, ha⟩ : ∃ a b, vs.toList = [a, b] := by
   have hl : vs.toList.length = 2 := by simpa using hl.symm
   match vs.toList, hl with
   | [a, b], _ => exact ⟨a, b, rfl⟩
 have : vs = #[a, b] := by rw [<- Array.toArray_toList (xs := vs), ha]
 subst this
 exact ⟨a, b, rfl, hr 0 x a rfl rfl, hr 1 y b rfl rfl⟩
theorem yc6 : zao Tryz.prog (yvi std) := by
 intro xs p r h hp
 dsimp only [yvi] at h |-
 split at h <;> cases h
 try simp only [L2, L3, std] at hp |-
 rename_i x sep
 have hp : yvj sep x := hp
 intro D w vs hD hxs hg
 obtain ⟨a, b, rfl, rx, ry⟩ := ykm hxs
 obtain rfl := zq0 ry
 unfold zf1
 rw [zbx (fn := Tryz.f88) rfl (by kernel_rfl) rfl]
 have fin : ∀ (l : List UInt8), l = jnZ sep x -> (∀ w', Below w.heap.size w w' -> ∃ v D', Ending.returned (.string ⟨l.toArray⟩) = .returned v /\ Below w.heap.size w w' /\ (∀ b, D b -> D' b) /\ (∀ b, D' b -> D b \/ (w.heap.size <= b /\ b < w'.heap.size)) /\ R w'.heap D' zam (.str (jnZ sep x)) v) := by
   rintro l rfl w' hw
   exact ⟨_, D, rfl, hw, fun _ h => h, fun b hb => .inl hb, zwh _ _ _ _⟩
 have none_ : jnZ sep x = [] -> ∀ (a : Option Addr) (c : Nat), Calls Tryz.prog 88 #[.slice a 0 c, .string ⟨sep.toArray⟩] w fun e w' => ∃ v D', e = .returned v /\ Below w.heap.size w w' /\ (∀ b, D b -> D' b) /\ (∀ b, D' b -> D b \/ (w.heap.size <= b /\ b < w'.heap.size)) /\ R w'.heap D' zam (.str (jnZ sep x)) v := by
   intro h0 a c
   refine (Tryz.strings_Join_none a c ⟨sep.toArray⟩ w).mono ?_
   rintro e w' ⟨rfl, rfl⟩
   exact fin [] h0.symm _ (Below.refl _ _)
 unfold yvj at hp
 split at hp
 · rename_i n get _
   obtain ⟨h1, h2, h3⟩ := hp
   cases rx with
   | lst0 => exact none_ rfl _ _
   | lst _ _ _ b o cap us hD0 hc hv h1' hr =>
     have hl : (zb7 n get).length = n := by rw [zb7, List.length_map, List.length_range]
     have hq : ∀ j x, ((zb7 n get).map (fun s : List UInt8 => (⟨s.toArray⟩ : ByteArray)))[j]? = some x -> w.cell? ⟨b, o + j, none⟩ = some (.string x) := by
       intro j x hj
       have hjn : j < n := by
         have := (List.getElem?_eq_some_iff.1 hj).1
         rw [List.length_map, hl] at this
         exact this
       obtain ⟨s, hs⟩ := h1 j hjn
       have r := hr j 0 hjn (by omega)
       rw [hs] at r
       have hv := hv j 0 hjn (by omega)
       rw [zq0 r, Nat.mul_one, Nat.add_zero] at hv
       rw [zly, hv]
       have e2 : (zb7 n get)[j]? = some s := by rw [zb7, List.getElem?_map, List.getElem?_range hjn, Option.map_some, hs]; rfl
       rw [List.getElem?_map, e2] at hj
       cases hj
       rfl
     have hm : ((zb7 n get).map (fun s : List UInt8 => (⟨s.toArray⟩ : ByteArray))).map (·.data.toList) = zb7 n get := by
       rw [List.map_map]
       exact List.map_id' _
     have := Tryz.strings_Join b o cap ((zb7 n get).map (fun s : List UInt8 => (⟨s.toArray⟩ : ByteArray))) ⟨sep.toArray⟩ w hq (hD b hD0) (by rw [List.length_map, hl]; omega) (by rw [List.length_map, hl]; exact hc) (by rw [hm]; exact h3)
     rw [hm, List.length_map, hl] at this
     refine this.mono ?_
     rintro e w' ⟨rfl, hw⟩
     exact fin _ rfl _ hw
 · cases rx
   exact none_ rfl _ _
 · exact hp.elim
end Sy
end Go.Proofs.YthppjaoicibeiaaGreatDoor
namespace Go.Proofs.YthppjaoicibeiaaGreatDoor
open Go Go.RowKit Go.Sort Go.Lib
set_option maxRecDepth 100000
set_option linter.unusedSimpArgs false
set_option linter.unusedVariables false
set_option maxHeartbeats 6400000 in
theorem ytm (u : Nat) (hu : u < 18446744073709551616) (w : World) (htab : Lib.TabIs Tryz.prog w "internal/strconv.uint64pow10" .u64 Lib.pow10Tab) :
   Calls Tryz.prog 178 #[.int .u64 u, .int .i64 10] w fun e w' => e = .returned (.string ⟨(Lib.decDigits u).toArray⟩) /\ Below w.heap.size w w' := by
 by_cases hs : u < 100
 · have hw : IntKind.i64.wrap (u : Int) = (u : Int) := by rw [IntKind.wrap_i64]; omega
   go_enter Tryz.func178, Tryz.ntmps178
   go_wp2_with (go_at_call 199; refine (Tryz.internal_strconv_small u hs _).mono ?_; rintro e w' ⟨rfl, rfl⟩)
   go_ret
   exact ⟨rfl, Below.refl _ _⟩
 · have hu1 : 1 <= u := by omega
   have hnd20 : Lib.nDigits u <= 20 := by have := Lib.numDigits_eq u hu1 hu; split at this <;> omega
   have hal : Tryz.prog.arrayLen 237 = 24 := by kernel_rfl
   have hsl1 : ∀ W, (Instr.sliceAt 237 (.pointer (some ⟨w.heap.size, 0, none⟩)) none (some (.int .i64 (Lib.nDigits u : Int))) none).run Tryz.prog W = .ok (.slice (some ⟨w.heap.size, 0, none⟩) (Lib.nDigits u) 24) W := fun W => by
     rw [run_sliceAt_array_h W 237 ⟨w.heap.size, 0, none⟩ (by simp [Program.arrayLen, Program.elem, Tryz.underlying237]) .i64 (Lib.nDigits u : Int) (by omega) (by rw [hal]; omega)]
     go_simp
     first | done | omega
   have hH0 := Lib.holds_zero0 w 237 (Lib.nDigits u) (by omega)
   have hfmt := Tryz.internal_strconv_formatBase10 w.heap.size 0 24 u (Array.replicate (Lib.nDigits u) 0) (w.alloc (.cells Lib.zeros24 237)) hH0 (by rw [Array.size_replicate]; exact Lib.lt_pow_nDigits u) hu (by rw [Array.size_replicate]; omega)
   rw [Array.size_replicate] at hfmt
   have HH0 := Lib.hid hH0
   clear hH0 hal
   go_enter Tryz.func178, Tryz.ntmps178
   go_wp2_with (first
     | (go_at_call 200; refine (Tryz.internal_strconv_numDigits u hu1 hu _ (Lib.tabIs_alloc htab _)).mono ?_; rintro e w' ⟨rfl, rfl⟩))
   refine hfmt.mono ?_
   rintro e w' ⟨rfl, k, v', dk, rfl, hF⟩
   have hcv : (convert 130 9 (.slice (some ⟨w.heap.size, 0, none⟩) (Lib.nDigits u) 24)).run Tryz.prog ((putRow (fun (b : UInt8) => Value.int .u8 (b.toNat : Int)) (w.alloc (.cells Lib.zeros24 237)) w.heap.size 0 dk).drewN k) = .ok (.string ⟨(Lib.decDigits u).toArray⟩) ((putRow (fun (b : UInt8) => Value.int .u8 (b.toNat : Int)) (w.alloc (.cells Lib.zeros24 237)) w.heap.size 0 dk).drewN k) := by
     have h := run_convert_bytes_back (P := Tryz.prog) ((putRow (fun (b : UInt8) => Value.int .u8 (b.toNat : Int)) (w.alloc (.cells Lib.zeros24 237)) w.heap.size 0 dk).drewN k) 130 9 5 ⟨w.heap.size, 0, none⟩ 24 (Lib.decDigits u) Tryz.underlying130 Tryz.underlying5 Tryz.underlying9 (fun j hj => by
       rw [Lib.row_is_numeral hF j hj, Lib.add_plain, World.cell?_drewN]
       exact cell?_putRow (fun (b : UInt8) => Value.int .u8 (b.toNat : Int)) _ w.heap.size 0 _ dk HH0.out (by rw [hF.size, Array.size_replicate]) j (by rw [hF.size]; rw [Lib.decDigits_length] at hj; exact hj))
     rw [Lib.decDigits_length] at h
     exact h
   go_wp2
   go_ret
   obtain ⟨os, eo⟩ := Lib.fin_at w (.cells Lib.zeros24 237) dk k 0
   refine ⟨rfl, ?_⟩
   have := Lib.below_grow w.heap.size w (Nat.le_refl _) k os
   rw [<- eo] at this
   exact this
theorem yom (u : Nat) (hu : u < 18446744073709551616) (w : World) (htab : Lib.TabIs Tryz.prog w "internal/strconv.uint64pow10" .u64 Lib.pow10Tab) :
   Calls Tryz.prog 138 #[.int .u64 u, .int .i64 10] w fun e w' => e = .returned (.string ⟨(Lib.decDigits u).toArray⟩) /\ Below w.heap.size w w' := by
 go_enter Tryz.func138, Tryz.ntmps138
 go_wp2_with (go_at_call 178; refine (ytm u hu _ htab).mono ?_; rintro e w' ⟨rfl, hw⟩)
 go_ret
 exact ⟨rfl, hw⟩
end Go.Proofs.YthppjaoicibeiaaGreatDoor
namespace Go.Proofs.YthppjaoicibeiaaGreatDoor
namespace Sy
open Go Go.RowKit
set_option maxRecDepth 100000
set_option linter.unusedSimpArgs false
set_option linter.unusedVariables false
theorem zga {P : Program} {f : FuncId} {fn : Func} {c : Code} {xs : List AV} {args : Array Value} {r : AV} (hf : P.funcs[f]? = some fn) (hb : fn.body = some c) (hn : (fn.name == "runtime.NumGoroutine") = false)
   (ha : ∀ h D vs, RL h D zam xs vs -> vs = args) (h : ∀ w, GOk w -> Calls P f args w fun e w' => ∃ v, e = .returned v /\ Below w.heap.size w w' /\ ∀ h D, R h D zam r v) : za9 P f xs r := by
 intro D w vs hD hxs hg
 have := ha _ _ _ hxs
 subst this
 unfold zf1
 rw [zbx hf hn hb]
 refine (h w hg).mono ?_
 rintro e w' ⟨v, rfl, hw, hv⟩
 exact ⟨v, D, rfl, hw, fun _ h => h, fun b hb => .inl hb, hv _ _⟩
theorem args3 {x y z : AV} {v u t : Value} (hx : zrt x v) (hy : zrt y u) (hz : zrt z t) : ∀ h D vs, RL h D zam [x, y, z] vs -> vs = #[v, u, t] := by
 intro h D vs ⟨hl, hr⟩
 obtain ⟨a, b, c, ha⟩ : ∃ a b c, vs.toList = [a, b, c] := by
   have hl : vs.toList.length = 3 := by simpa using hl.symm
   match vs.toList, hl with
   | [a, b, c], _ => exact ⟨a, b, c, rfl⟩
 have : vs = #[a, b, c] := by rw [<- Array.toArray_toList (xs := vs), ha]
 subst this
 rw [hx _ _ a (hr 0 x a rfl rfl), hy _ _ b (hr 1 y b rfl rfl), hz _ _ c (hr 2 z c rfl rfl)]
def zcq (n : Int) : List UInt8 := Lib.decDigits n.toNat
def zkm (n : Int) : Prop := 0 <= n /\ n < 18446744073709551616
def yol (L : zaa) : zb4 := (138, fun xs => match xs with | [.int .u64 n, .int .i64 b] => some (L2 L (fun n b : Int => zkm n /\ b = 10) n b, .str (L zcq n)) | _ => none)
theorem yi6 : zao Tryz.prog (yol std) := by
 intro xs p r h hp
 dsimp only [yol] at h |-
 split at h <;> cases h
 try simp only [L2, L3, std] at hp |-
 rename_i n b
 obtain ⟨⟨h0, h1⟩, h2⟩ : zkm n /\ b = 10 := hp
 subst h2
 obtain ⟨u, rfl⟩ := zla h0
 refine zga (fn := Tryz.f138) rfl rfl (by kernel_rfl) (ztz (zd6 _ _) (zd6 _ _)) (fun w hg => (yom u (by omega) w hg.2.1).mono ?_)
 rintro e w' ⟨rfl, hw⟩
 exact ⟨_, rfl, hw, fun h D => zwh h D _ _⟩
def ygi (s : List UInt8) : Int := match Lib.parseUintB 64 s with | .ok u => u | .syntax => 0 | .range => 18446744073709551615
def yew (s : List UInt8) : Bool := match Lib.parseUintB 64 s with | .ok _ => true | _ => false
def ymm (L : zaa) : zb4 := (196, fun xs => match xs with | [.str s, .int .i64 b, .int .i64 z] => some (L3 L (fun (s : List UInt8) (b z : Int) => s.length <= 140737488355328 /\ b = 10 /\ z = 64) s b z, .tup [.int .u64 (L ygi s), .ifb (L yew s)]) | _ => none)
theorem zzs {x y : AV} {v u : Value} {h : Array Obj} {D : Nat -> Prop} (hx : R h D zam x v) (hy : R h D zam y u) : R h D zam (.tup [x, y]) (.tuple #[v, u]) := by
 refine .tup _ _ rfl ?_
 intro i z t hz ht
 match i with
 | 0 => simp at hz ht; subst hz ht; exact hx
 | 1 => simp at hz ht; subst hz ht; exact hy
 | i + 2 => simp at hz
theorem ygh : zao Tryz.prog (ymm std) := by
 intro xs p r h hp
 dsimp only [ymm] at h |-
 split at h <;> cases h
 try simp only [L2, L3, std] at hp |-
 rename_i s b z
 obtain ⟨h0, h1, h2⟩ : s.length <= 140737488355328 /\ b = 10 /\ z = 64 := hp
 subst h1; subst h2
 have hs : (⟨s.toArray⟩ : ByteArray).size = s.length := by show s.toArray.size = s.length; simp
 have hd : (⟨s.toArray⟩ : ByteArray).data.toList = s := rfl
 refine zga (fn := Tryz.f196) rfl rfl (by kernel_rfl) (args3 (zbu _) (zd6 _ _) (zd6 _ _)) (fun w hg => ?_)
 obtain ⟨-, -, ⟨t2, p2, g2⟩, ⟨t3, p3, g3⟩, -⟩ := hg
 cases hq : Lib.parseUintB 64 s with
 | ok u =>
   refine (Tryz.strconv_ParseUint_10_at64_ok ⟨s.toArray⟩ (by rw [hs]; omega) u (by rw [hd]; exact hq) w).mono ?_
   rintro e w' ⟨rfl, hw⟩
   refine ⟨_, rfl, ?_, fun h D => zzs ?_ ?_⟩
   · rcases hw with rfl | rfl
     · exact Below.refl _ _
     · exact Lib.bytesWorld_below _ _ _
   · show R h D zam (.int .u64 (ygi s)) _
     rw [ygi, hq]; exact .int _ _
   · show R h D zam (.ifb (yew s)) _
     rw [yew, hq]; exact .ifn
 | «syntax» =>
   refine (Tryz.strconv_ParseUint_10_at64_syntax_var ⟨s.toArray⟩ (by rw [hs]; omega) (by rw [hd]; exact hq) t2 p2 w g2).mono ?_
   rintro e w' ⟨N, rfl, hN, hc, hw⟩
   refine ⟨_, rfl, hw, fun h D => zzs ?_ ?_⟩
   · show R h D zam (.int .u64 (ygi s)) _
     rw [ygi, hq]; exact .int _ _
   · show R h D zam (.ifb (yew s)) _
     rw [yew, hq]; exact .ifs _ _
 | range =>
   refine (Tryz.strconv_ParseUint_10_at64_range_var ⟨s.toArray⟩ (by rw [hs]; omega) (by rw [hd]; exact hq) t3 p3 w g3).mono ?_
   rintro e w' ⟨N, rfl, hN, hc, hw⟩
   refine ⟨_, rfl, hw, fun h D => zzs ?_ ?_⟩
   · show R h D zam (.int .u64 (ygi s)) _
     rw [ygi, hq]; exact .int _ _
   · show R h D zam (.ifb (yew s)) _
     rw [yew, hq]; exact .ifs _ _
def zcl (n : Int) : Prop := 0 <= n /\ n < 18446744073709551616
def zaw (n : Int) : List UInt8 := zdc n.toNat
def zkt (L : zaa) : zb4 := (170, fun xs => match xs with | [.int .u64 n] => some (L zcl n, .str (L zaw n)) | _ => none)
theorem zii : zao Tryz.prog (zkt std) := by
 intro xs p r h hp
 dsimp only [zkt] at h |-
 split at h <;> cases h
 try simp only [L2, L3, std] at hp |-
 rename_i n
 obtain ⟨h0, h1⟩ : zcl n := hp
 obtain ⟨k, rfl⟩ := zla h0
 exact zce (fn := Tryz.f170) rfl rfl (by kernel_rfl) (yuu (zd6 _ _)) (fun h D => zwh h D _ _) (fun w => zzx k w (by omega))
theorem zyq : za9 Tryz.prog 173 [] (.bool true) := by
 refine za6 (T := tt) (S := fun L => zad [zkt L, zse L]) (lo := noA) (lb := noA) 5 (fn := Tryz.f173) rfl rfl (by kernel_rfl) (by kernel_rfl) rfl zab (za1 ⟨zii, zho, trivial⟩) (by kernel_rfl) ?_
 (intro L P1 Q1 hL hP hQ; cbv; subst hL; simp only [L2, L3, std, syT]; subst hQ)
 (simp only [syS, reduceCtorEq, Int.reduceToNat, Int.reduceAdd, Int.reduceSub])
 exact ⟨by unfold zcl; omega, fun _ => ⟨by unfold yge; omega, by decide +kernel⟩, by rw [zaw, show (300 : Int).toNat = 300 from rfl, zgd (by decide), zb9 (by decide)]; rfl⟩
def tru (f : Nat) : zb4 := (f, fun xs => match xs with | [] => some (True, .bool true) | _ => none)
theorem zbe {P : Program} {f : Nat} (h : za9 P f [] (.bool true)) : zao P (tru f) := by
 intro xs p r h' hp
 match xs with
 | [] => cases h'; exact h
 | x :: xs => cases h'
theorem zjb : za9 Tryz.prog 134 [] (.bool true) := by
 refine za6 (T := tt) (S := fun L => zad [tru 173]) (lo := noA) (lb := noA) 5 (fn := Tryz.f134) rfl rfl (by kernel_rfl) (by kernel_rfl) rfl zab (za1 ⟨zbe zyq, trivial⟩) (by kernel_rfl) ?_
 (intro L P1 Q1 hL hP hQ; cbv; subst hL; simp only [L2, L3, std, syT]; subst hQ)
 (simp only [syS, reduceCtorEq, Int.reduceToNat, Int.reduceAdd, Int.reduceSub])
def isD (c : UInt8) : Bool := decide (48 <= c.toNat) && decide (c.toNat <= 57)
def dcS (a : Nat) (c : UInt8) : Nat := a * 10 + (c.toNat - 48)
def zmk (a : Nat) (l : List UInt8) : Nat := l.foldl dcS a
theorem zkc (a : Nat) : zmk a [] = a := by unfold zmk; exact List.foldl_nil
theorem zi4 (a : Nat) (c : UInt8) (r : List UInt8) : zmk a (c :: r) = zmk (a * 10 + (c.toNat - 48)) r := by unfold zmk; exact List.foldl_cons ..
theorem zw1 (l : List UInt8) (c : UInt8) (a : Nat) : zmk a (l ++ [c]) = zmk a l * 10 + (c.toNat - 48) := by
 unfold zmk
 rw [List.foldl_append, List.foldl_cons, List.foldl_nil, dcS]
theorem ztm : ∀ (l : List UInt8) (a : Nat), a <= zmk a l
 | [], a => by rw [zkc]; exact Nat.le_refl _
 | c :: r, a => by rw [zi4]; exact Nat.le_trans (by omega) (ztm r _)
theorem zh8 {c : UInt8} : isD c = true ↔ 48 <= c.toNat /\ c.toNat <= 57 := by
 simp [isD]
theorem yju : ∀ (l : List UInt8) (a : Nat), l.all isD = true -> a < 18446744073709551616 -> Lib.parseUintM 18446744073709551615 a l = if zmk a l < 18446744073709551616 then .ok (zmk a l) else .range
 | [], a, _, ha => by
   rw [zkc, if_pos ha, Lib.parseUintM]
 | c :: r, a, h, ha => by
   rw [List.all_cons, Bool.and_eq_true] at h
   obtain ⟨h1, h2⟩ := h
   rw [zh8] at h1
   rw [Lib.parseUintM, if_pos h1, zi4]
   have hge := ztm r (a * 10 + (c.toNat - 48))
   split
   · rw [if_neg (by omega)]
   · split
     · rw [if_neg (by omega)]
     · exact yju r _ h2 (by omega)
theorem ymn {l : List UInt8} (h : l.all isD = true) (h0 : l ≠ []) : Lib.parseUintB 64 l = if zmk 0 l < 18446744073709551616 then .ok (zmk 0 l) else .range := by
 rw [Lib.parseUintB, if_neg h0]
 exact yju l 0 h (by decide)
def zsr (s : List UInt8) : Bool := s.all isD && !(s == []) && (!(ze2 s 0 == 48) || s == [48])
def zs0 (s : List UInt8) : Int := if zsr s = true then (if zmk 0 s < 18446744073709551616 then 0 else 7) else 4
def wnV (s : List UInt8) : Int := if zs0 s = 0 then zmk 0 s else 0
def yif (L : zaa) : zb4 := (87, fun xs => match xs with | [.int .u64 n] => some (L zkm n, .str (L zcq n)) | _ => none)
theorem zvz : zao Tryz.prog (yif std) := by
 intro xs p r h hp
 dsimp only [yif] at h |-
 split at h <;> cases h
 try simp only [L2, L3, std] at hp |-
 rename_i n
 have hn : zkm n := hp
 refine za6 (T := tt) (S := fun L => zad [yol L]) (lo := noA) (lb := noA) 5 (fn := Tryz.f87) rfl rfl (by kernel_rfl) (by kernel_rfl) rfl zab (za1 ⟨yi6, trivial⟩) (by kernel_rfl) ?_
 (intro L P1 Q1 hL hP hQ; cbv; subst hL; simp only [L2, L3, std, syT]; subst hQ)
 refine ⟨⟨hn, trivial⟩, ?_⟩
 rw [zi0]
def ygn (s : List UInt8) (i : Nat) : Prop := i <= s.length /\ (s.take i).all isD = true
theorem yon (a b c d : Int) : zgw (.tup [.int .u64 a, .int .i64 b]) (.tup [.int .u64 c, .int .i64 d]) = (c = a /\ d = b) := by
 simp [sySet]
theorem zoj {s : List UInt8} (h : zsr s = false) : 0 = wnV s /\ 4 = zs0 s := by
 have e : zs0 s = 4 := by rw [zs0, if_neg (by rw [h]; decide)]
 exact ⟨by rw [wnV, if_neg (by rw [e]; decide)], e.symm⟩
theorem ybj {s : List UInt8} {i : Nat} (hi : i < s.length) (h : ze2 s (zan i) < 48 \/ 57 < ze2 s (zan i)) : zsr s = false := by
 have : s.all isD = false := by
   rw [List.all_eq_false]
   refine ⟨s[i], List.getElem_mem hi, ?_⟩
   rw [zh8]
   rw [ze2, zan, Int.toNat_natCast, List.getD_eq_getElem?_getD, List.getElem?_eq_getElem hi, Option.getD_some] at h
   omega
 rw [zsr, this]; rfl
theorem yn1 {s : List UInt8} {i i' : Nat} (hi' : i' = i + 1) (h : ygn s i) (hi : i < s.length) (h1 : ¬ ze2 s (zan i) < 48) (h2 : ¬ 57 < ze2 s (zan i)) : ygn s i' := by
 subst hi'
 refine ⟨hi, ?_⟩
 rw [List.take_succ_eq_append_getElem hi, List.all_append, h.2, List.all_cons, List.all_nil]
 rw [ze2, zan, Int.toNat_natCast, List.getD_eq_getElem?_getD, List.getElem?_eq_getElem hi, Option.getD_some] at h1 h2
 have : isD s[i] = true := zh8.2 (by omega)
 rw [this]; rfl
theorem zv3 {s : List UInt8} {i : Nat} (h : ygn s i) (hi : ¬ i < s.length) : s.all isD = true := by
 have := h.2
 rw [List.take_of_length_le (by omega)] at this
 exact this
theorem zk1 {s : List UInt8} (h : s.all isD = true) (h0 : s ≠ []) (h1 : ze2 s 0 ≠ 48 \/ s = [48]) : ((!yew s) = true -> 0 = wnV s /\ 7 = zs0 s) /\ ((!yew s) = false -> ygi s = wnV s /\ 0 = zs0 s) := by
 have ho : zsr s = true := by
   rw [zsr, h]
   rcases h1 with h1 | h1
   · simp [h0, h1]
   · subst h1; rfl
 have hB := ymn h h0
 rw [wnV, zs0, if_pos ho, yew, ygi, hB]
 by_cases hl : zmk 0 s < 18446744073709551616
 · rw [if_pos hl, if_pos hl]
   exact ⟨fun h => by simp at h, fun _ => ⟨rfl, rfl⟩⟩
 · rw [if_neg hl, if_neg hl]
   exact ⟨fun _ => ⟨rfl, rfl⟩, fun h => by simp at h⟩
def nuA (L : zaa) (s : List UInt8) : Nat -> St -> Option Ann := fun id st => match id with
 | 0 => some ⟨Nat, fun i => [(9, .int .i64 (L zan i))], fun _ => [], [0, 8], [], fun i => L2 L ygn s i, fun i => L2 L (fun (s : List UInt8) (i : Nat) => s.length - i) s i⟩
 | _ => none
def zzf (L : zaa) : zb4 := (172, fun xs => match xs with | [.str s] => some (L2 L upto 1000000 s, .tup [.int .u64 (L wnV s), .int .i64 (L zs0 s)]) | _ => none)
theorem zfz {n k : Nat} (h : ilt (zan n) (zan k) = true) : n < k := by
 have := of_decide_eq_true h
 unfold zan at this; omega
theorem zhz {n k : Nat} (h : ilt (zan n) (zan k) = false) : ¬ n < k := by
 have := of_decide_eq_false h
 unfold zan at this; omega
theorem ycc {n k : Nat} (h : n < k) : inR (zan n) (zan k) = true := by rw [yhp]; exact ⟨Int.natCast_nonneg _, by unfold zan; omega⟩
theorem ygv {n n' : Nat} (h : n' = n + 1) (h2 : n < 100000000) : zgt .i64 (zan n) 1 = zan n' := by
 subst h; unfold zan; rw [zgt, znw]; omega
theorem zqj {s : List UInt8} (h : seq s [] = false) : s ≠ [] := by
 intro e; subst e; exact absurd h (by decide)
theorem ysm {s : List UInt8} (h : seq s [] = true) : zsr s = false := by
 have : s = [] := by simpa [seq] using h
 subst this; rfl
theorem ysj {s : List UInt8} (h : seq s [] = false) : inR 0 (slen s) = true := by
 have := zqj h
 rw [yhp, slen]
 have : 0 < s.length := List.length_pos_iff.2 this
 omega
theorem ysi {s : List UInt8} (h : (!seq s [48]) = false) : s = [48] := by
 have : seq s [48] = true := by simpa using h
 simpa [seq] using this
theorem yjy {s : List UInt8} (h : ieq (ze2 s 0) 48 = false) : ze2 s 0 ≠ 48 := by
 simpa [ieq] using h
theorem ysl {s : List UInt8} (h : ieq (ze2 s 0) 48 = true) (h2 : (!seq s [48]) = true) : zsr s = false := by
 have h1 : ze2 s 0 = 48 := by simpa [ieq] using h
 have h3 : ¬ s = [48] := by
   intro e; subst e; exact absurd h2 (by decide)
 rw [zsr, h1]
 simp [h3]
theorem zzg : zao Tryz.prog (zzf std) := by
 intro xs p r h hp
 dsimp only [zzf] at h |-
 split at h <;> cases h
 try simp only [L2, L3, std] at hp |-
 rename_i s
 have hs : s.length <= 1000000 := hp
 refine za6 (T := tt) (S := fun L => zad [ymm L]) (lo := fun L => nuA L s) (lb := noA) 5 (fn := Tryz.f172) rfl rfl (by kernel_rfl) (by kernel_rfl) rfl zab (za1 ⟨ygh, trivial⟩) (by kernel_rfl) ?_
 obtain ⟨n0, hn0⟩ : ∃ n : Nat, n = 0 := ⟨_, rfl⟩
 intro L P' Q' hL hP hQ
 (cbv; try simp only [syT, true_and, and_true])
 refine ⟨⟨n0, ?_⟩, fun i hi => ?_⟩
 · (cbv; try simp only [syT, true_and, and_true])
   subst hL; subst hQ; subst hn0
   exact ⟨rfl, Nat.zero_le _, by rw [List.take_zero]; rfl⟩
 obtain ⟨i', hi'⟩ : ∃ i' : Nat, i' = i + 1 := ⟨_, rfl⟩
 (cbv; try simp only [syT, true_and, and_true])
 refine ⟨fun h1 => ⟨?_, fun h2 => ?_, fun h2 => ⟨?_, fun h3 => ?_, fun h3 => ⟨i', ?_⟩⟩⟩, fun h1 => ⟨fun h2 => ?_, fun h2 => ⟨?_, fun h3 => ⟨fun h4 => ?_, fun h4 => ⟨?_, fun h5 => ?_, fun h5 => ?_⟩⟩, fun h3 => ⟨?_, fun h5 => ?_, fun h5 => ?_⟩⟩⟩⟩
 all_goals (try (cbv; try simp only [syT, true_and, and_true]))
 all_goals (subst hL; subst hQ)
 all_goals (try rw [yon])
 · exact ycc (k := s.length) (zfz h1)
 · exact zoj (ybj (zfz (k := s.length) h1) (.inl (of_decide_eq_true h2)))
 · exact ycc (k := s.length) (zfz h1)
 · exact zoj (ybj (zfz (k := s.length) h1) (.inr (of_decide_eq_true h3)))
 · have hlt : i < s.length := zfz (k := s.length) h1
   refine ⟨ygv hi' (by omega), yn1 hi' hi hlt (of_decide_eq_false h2) (of_decide_eq_false h3), ?_⟩
   show s.length - i' + 1 <= s.length - i
   omega
 · exact zoj (ysm h2)
 · exact ysj h2
 · exact zoj (ysl h3 h4)
 · exact ⟨by omega, rfl, rfl⟩
 · exact (zk1 (zv3 hi (zhz (k := s.length) h1)) (zqj h2) (.inr (ysi h4))).1 h5
 · exact (zk1 (zv3 hi (zhz (k := s.length) h1)) (zqj h2) (.inr (ysi h4))).2 h5
 · exact ⟨by omega, rfl, rfl⟩
 · exact (zk1 (zv3 hi (zhz (k := s.length) h1)) (zqj h2) (.inl (yjy h3))).1 h5
 · exact (zk1 (zv3 hi (zhz (k := s.length) h1)) (zqj h2) (.inl (yjy h3))).2 h5
theorem zzq {N : Nat} (h : (N : Int) < 18446744073709551616) : N < 18446744073709551616 := by omega
theorem yu7 {n : Nat} (h : n < 10) : (UInt8.ofNat (48 + n)).toNat = 48 + n := by
 rw [UInt8.toNat_ofNat']; omega
theorem ykf (u : Nat) : (Lib.decDigits u).all isD = true /\ Lib.decDigits u ≠ [] /\ zmk 0 (Lib.decDigits u) = u /\ (1 <= u -> ze2 (Lib.decDigits u) 0 ≠ 48) := by
 induction u using Nat.strongRecOn with
 | _ u ih =>
   by_cases h : u < 10
   · rw [Lib.decDigits_one h]
     have hc := yu7 h
     refine ⟨?_, by simp, ?_, fun h1 => ?_⟩
     · rw [List.all_cons, List.all_nil, Bool.and_true, zh8, hc]; omega
     · rw [zi4, zkc, hc]; omega
     · show ((UInt8.ofNat (48 + u)).toNat : Int) ≠ 48
       rw [hc]; omega
   · obtain ⟨a1, a2, a3, a4⟩ := ih (u / 10) (by omega)
     have hc := yu7 (show u % 10 < 10 by omega)
     rw [Lib.decDigits, dif_neg h]
     refine ⟨?_, by simp, ?_, fun _ => ?_⟩
     · rw [List.all_append, a1, List.all_cons, List.all_nil, Bool.and_true, Bool.true_and, zh8, hc]; omega
     · rw [zw1, a3, hc]; omega
     · have := a4 (by omega)
       have h0 : 0 < (Lib.decDigits (u / 10)).length := List.length_pos_iff.2 a2
       rw [ze2, List.getD_eq_getElem?_getD] at this |-
       rw [List.getElem?_append_left (by simpa using h0)]
       exact this
theorem zem {n : Int} (h : zkm n) : zs0 (zcq n) = 0 /\ wnV (zcq n) = n := by
 obtain ⟨u, rfl⟩ := zla h.1
 have hu : u < 18446744073709551616 := zzq h.2
 obtain ⟨a1, a2, a3, a4⟩ := ykf u
 have ho : zsr (zcq (u : Int)) = true := by
   rw [zcq, Int.toNat_natCast, zsr, a1]
   by_cases h0 : 1 <= u
   · simp [a2, a4 h0]
   · have : u = 0 := by omega
     subst this
     rw [Lib.decDigits_one (by decide)]; rfl
 have e : zs0 (zcq (u : Int)) = 0 := by
   rw [zs0, if_pos ho, zcq, Int.toNat_natCast, a3, if_pos hu]
 refine ⟨e, ?_⟩
 rw [wnV, if_pos e, zcq, Int.toNat_natCast, a3]
theorem yke : ∀ (n : Nat) (s : List UInt8), s.length = n -> s.all isD = true -> s ≠ [] -> (ze2 s 0 ≠ 48 \/ s = [48]) -> Lib.decDigits (zmk 0 s) = s
 | 0, s, hl, _, h0, _ => absurd (List.eq_nil_of_length_eq_zero hl) h0
 | n + 1, s, hl, ha, h0, hz => by
   obtain ⟨t, c, rfl⟩ : ∃ t c, s = t ++ [c] := ⟨s.dropLast, s.getLast h0, (List.dropLast_concat_getLast h0).symm⟩
   rw [List.all_append, List.all_cons, List.all_nil, Bool.and_true, Bool.and_eq_true] at ha
   obtain ⟨ht, hc⟩ := ha
   rw [zh8] at hc
   rw [zw1]
   have back : UInt8.ofNat (48 + (c.toNat - 48)) = c := by
     apply UInt8.toNat_inj.1
     rw [UInt8.toNat_ofNat']
     have := c.toNat_lt
     omega
   by_cases htn : t = []
   · subst htn
     rw [zkc, Nat.zero_mul, Nat.zero_add, Lib.decDigits_one (by omega), back]; rfl
   · have hlt : t.length = n := by simpa using hl
     obtain ⟨x, r, rfl⟩ := List.exists_cons_of_ne_nil htn
     have hx : ze2 (x :: r) 0 ≠ 48 := by
       rcases hz with hz | hz
       · exact hz
       · have := congrArg List.length hz
         simp at this
     have h1 : 1 <= zmk 0 (x :: r) := by
       rw [zi4]
       refine Nat.le_trans ?_ (ztm r _)
       rw [List.all_cons, Bool.and_eq_true, zh8] at ht
       have : x.toNat ≠ 48 := fun e => hx (by show ((x.toNat : Nat) : Int) = 48; omega)
       omega
     have ih := yke n (x :: r) hlt ht htn (.inl hx)
     generalize zmk 0 (x :: r) = v at h1 ih |-
     rw [Lib.decDigits, dif_neg (by omega), show (v * 10 + (c.toNat - 48)) / 10 = v by omega, show (v * 10 + (c.toNat - 48)) % 10 = c.toNat - 48 by omega, ih, back]
theorem yx8 {s : List UInt8} (h : zsr s = true) : s.all isD = true /\ s ≠ [] /\ (ze2 s 0 ≠ 48 \/ s = [48]) := by
 simp only [zsr, Bool.and_eq_true, Bool.not_eq_true', Bool.or_eq_true, beq_iff_eq, beq_eq_false_iff_ne, ne_eq] at h
 exact ⟨h.1.1, h.1.2, h.2⟩
theorem zgn {s : List UInt8} (h : zs0 s = 0) : zcq (wnV s) = s /\ zkm (wnV s) := by
 have ho : zsr s = true := by
   cases hq : zsr s with
   | true => rfl
   | false => rw [zs0, hq, if_neg (by decide)] at h; exact absurd h (by decide)
 have hl : zmk 0 s < 18446744073709551616 := by
   rw [zs0, if_pos ho] at h
   split at h
   · assumption
   · exact absurd h (by decide)
 obtain ⟨h1, h2, h3⟩ := yx8 ho
 rw [wnV, if_pos h, zcq, Int.toNat_natCast, yke _ s rfl h1 h2 h3]
 exact ⟨rfl, by unfold zkm; omega⟩
theorem zlu {n : Int} (h : zkm n) : (zcq n).length <= 20 := by
 obtain ⟨u, rfl⟩ := zla h.1
 have hu : u < 18446744073709551616 := zzq h.2
 rw [zcq, Int.toNat_natCast, Lib.decDigits_length]
 by_cases h0 : u = 0
 · subst h0; rw [Lib.nDigits_small (by decide)]; decide
 · have := Lib.numDigits_eq u (by omega) hu
   split at this <;> omega
structure Pl where
 a : Int
 b : Int
 c : Int
 d : Int
 p : Int
 deriving DecidableEq
def plA (L : zaa) (x : Pl) : AV := .agg [.int .u8 (L Pl.a x), .int .u8 (L Pl.b x), .int .u8 (L Pl.c x), .int .u8 (L Pl.d x), .int .u16 (L Pl.p x)]
def zxm (L : zaa) (a b c d p : Int) : Pl := L (L (L (L (L Pl.mk a) b) c) d) p
def zz0 (x : Pl) : Prop := (0 <= x.a /\ x.a <= 255) /\ (0 <= x.b /\ x.b <= 255) /\ (0 <= x.c /\ x.c <= 255) /\ (0 <= x.d /\ x.d <= 255) /\ 0 <= x.p /\ x.p <= 65535
def ub (n : Int) : UInt8 := UInt8.ofNat n.toNat
def plB (x : Pl) : List UInt8 := [ub x.a, ub x.b, ub x.c, ub x.d, ub (x.p / 256), ub (x.p % 256)]
def plT (x : Pl) : List UInt8 := zcq x.a ++ 46 :: (zcq x.b ++ 46 :: (zcq x.c ++ 46 :: (zcq x.d ++ 58 :: zcq x.p)))
def zfs (x : Pl) : Bool := decide (x.a = 0) && (decide (x.b = 0) && (decide (x.c = 0) && decide (x.d = 0)))
def zuv (x y : Pl) : Bool := decide (x.p = y.p) && (decide (x.a = y.a /\ x.b = y.b /\ x.c = y.c /\ x.d = y.d) || (zfs x || zfs y))
theorem yrb (n : Nat) : UInt8.ofNat n = UInt8.ofNat (n % 256) := by
 apply UInt8.toNat_inj.1
 rw [UInt8.toNat_ofNat', UInt8.toNat_ofNat']; omega
theorem ywx {p : Int} (h0 : 0 <= p) (h1 : p <= 65535) : zyz p 2 = [ub (p / 256), ub (p % 256)] := by
 obtain ⟨n, rfl⟩ := zla h0
 show zsf n 2 = _
 rw [zsf, zsf, zsf, Nat.pow_one, Nat.pow_zero, Nat.div_one, yrb n]
 show _ = [UInt8.ofNat ((n : Int) / 256).toNat, UInt8.ofNat ((n : Int) % 256).toNat]
 rw [show ((n : Int) / 256).toNat = n / 256 by omega, show ((n : Int) % 256).toNat = n % 256 by omega]
def zpi (L : zaa) : zb4 := (115, fun xs => match xs with
 | [.agg [.int .u8 a, .int .u8 b, .int .u8 c, .int .u8 d, .int .u16 p]] => some (L zz0 (zxm L a b c d p), .str (L plB (zxm L a b c d p)))
 | _ => none)
theorem znk : zao Tryz.prog (zpi std) := by
 intro xs p r h hp
 dsimp only [zpi] at h |-
 split at h <;> cases h
 try simp only [L2, L3, std] at hp |-
 rename_i a b c d p
 have hp : zz0 ⟨a, b, c, d, p⟩ := hp
 refine za6 (T := tt) (S := fun L => zad [zse L]) (lo := noA) (lb := noA) 5 (fn := Tryz.f115) rfl rfl (by kernel_rfl) (by kernel_rfl) rfl zab (za1 ⟨zho, trivial⟩) (by kernel_rfl) ?_
 (intro L P1 Q1 hL hP hQ; cbv; subst hL; simp only [L2, L3, std, syT]; subst hQ)
 (simp only [syS, reduceCtorEq, Int.reduceToNat, Int.reduceAdd, Int.reduceSub])
 obtain ⟨-, -, -, -, h1, h2⟩ := hp
 simp only at h1 h2
 have h2 : p <= 65535 := h2
 rw [show p % 18446744073709551616 = p by omega, ywx h1 h2]
 exact ⟨fun i _ => ⟨_, rfl⟩, ⟨by omega, by omega, by decide, by decide⟩, by simp [zb8], rfl⟩
def yix (L : zaa) : zb4 := (98, fun xs => match xs with
 | [.agg [.int .u8 a, .int .u8 b, .int .u8 c, .int .u8 d, .int .u16 p]] => some (True, .bool (L zfs (zxm L a b c d p)))
 | _ => none)
theorem zw7 : zao Tryz.prog (yix std) := by
 intro xs p r h hp
 dsimp only [yix] at h |-
 split at h <;> cases h
 try simp only [L2, L3, std] at hp |-
 rename_i a b c d p
 refine za6 (T := tt) (S := noS) (lo := noA) (lb := noA) 5 (fn := Tryz.f98) rfl rfl (by kernel_rfl) (by kernel_rfl) rfl zab (zbh _) (by kernel_rfl) ?_
 (intro L P1 Q1 hL hP hQ; cbv; subst hL; simp only [L2, L3, std, syT]; subst hQ)
 (simp only [syS, reduceCtorEq, Int.reduceToNat, Int.reduceAdd, Int.reduceSub])
 show _ = (decide (a = 0) && (decide (b = 0) && (decide (c = 0) && decide (d = 0))))
 simp [ieq, Bool.beq_eq_decide_eq]
def ybs (L : zaa) : zb4 := (89, fun xs => match xs with
 | [.agg [.int .u8 a, .int .u8 b, .int .u8 c, .int .u8 d, .int .u16 p], .agg [.int .u8 e, .int .u8 f, .int .u8 g, .int .u8 h, .int .u16 q]] => some (True, .bool (L2 L zuv (zxm L a b c d p) (zxm L e f g h q)))
 | _ => none)
theorem ybt : zao Tryz.prog (ybs std) := by
 intro xs p r h hp
 dsimp only [ybs] at h |-
 split at h <;> cases h
 try simp only [L2, L3, std] at hp |-
 rename_i a b c d p e f g h q
 refine za6 (T := tt) (S := fun L => zad [yix L]) (lo := noA) (lb := noA) 5 (fn := Tryz.f89) rfl rfl (by kernel_rfl) (by kernel_rfl) rfl zab (za1 ⟨zw7, trivial⟩) (by kernel_rfl) ?_
 (intro L P1 Q1 hL hP hQ; cbv; subst hL; simp only [L2, L3, std, syT]; subst hQ)
 (simp only [syS, reduceCtorEq, Int.reduceToNat, Int.reduceAdd, Int.reduceSub])
 show (_ -> (_ -> true = (decide (p = q) && (decide (a = e /\ b = f /\ c = g /\ d = h) || (zfs ⟨a, b, c, d, p⟩ || zfs ⟨e, f, g, h, q⟩)))) /\ (_ -> (zfs ⟨a, b, c, d, p⟩ = true -> true = (decide (p = q) && (decide (a = e /\ b = f /\ c = g /\ d = h) || (zfs ⟨a, b, c, d, p⟩ || zfs ⟨e, f, g, h, q⟩)))) /\
   (zfs ⟨a, b, c, d, p⟩ = false -> zfs ⟨e, f, g, h, q⟩ = (decide (p = q) && (decide (a = e /\ b = f /\ c = g /\ d = h) || (zfs ⟨a, b, c, d, p⟩ || zfs ⟨e, f, g, h, q⟩)))))) /\ (_ -> false = (decide (p = q) && (decide (a = e /\ b = f /\ c = g /\ d = h) || (zfs ⟨a, b, c, d, p⟩ || zfs ⟨e, f, g, h, q⟩))))
 refine ⟨fun h1 => ⟨fun h2 => ?_, fun h2 => ⟨fun h3 => ?_, fun h3 => ?_⟩⟩, fun h1 => ?_⟩
 · simp [h1, h2]
 · subst h1
   rw [h3]; simp
 · have h2 : ¬ (a = e /\ b = f /\ c = g /\ d = h) := fun x => h2 x.1 x.2.1 x.2.2.1 x.2.2.2
   rw [decide_eq_true h1, decide_eq_false h2, h3]; rfl
 · simp [h1]
def ipL (x : Pl) : List Int := [x.a, x.b, x.c, x.d]
def ipT (x : Pl) (j : Nat) : List UInt8 := zcq (za2 (ipL x) j)
def le4s (i : Nat) : Prop := i <= 4
def to4 (i : Nat) : Nat := 4 - i
def txtA (L : zaa) (x : Pl) : Nat -> St -> Option Ann := fun id st => match id with
 | 0 => some ⟨Nat, fun i => [(8, .int .i64 (L zan i)), (3, .sl 900 1 0 i)], fun i => [(900, .row 9 1 i (fun j _ => .str (L2 L ipT x j)))], [1, 7], [1], fun i => L le4s i, fun i => L to4 i⟩
 | _ => none
theorem zxw {x : Pl} (h : zz0 x) (j : Nat) : zkm (za2 (ipL x) j) := by
 obtain ⟨h1, h2, h3, h4, -⟩ := h
 match j with
 | 0 => exact ⟨h1.1, by have := h1.2; show x.a < _; omega⟩
 | 1 => exact ⟨h2.1, by have := h2.2; show x.b < _; omega⟩
 | 2 => exact ⟨h3.1, by have := h3.2; show x.c < _; omega⟩
 | 3 => exact ⟨h4.1, by have := h4.2; show x.d < _; omega⟩
 | j + 4 => exact ⟨Int.le_refl 0, (by decide : (0 : Int) < 18446744073709551616)⟩
theorem yxn (x : Pl) : Lib.join [zcq x.a, zcq x.b, zcq x.c, zcq x.d] [46] = zcq x.a ++ 46 :: (zcq x.b ++ 46 :: (zcq x.c ++ 46 :: zcq x.d)) := by
 simp [Lib.join, List.intercalate]
def zsh (L : zaa) : zb4 := (135, fun xs => match xs with
 | [.agg [.int .u8 a, .int .u8 b, .int .u8 c, .int .u8 d, .int .u16 p]] => some (L zz0 (zxm L a b c d p), .str (L plT (zxm L a b c d p)))
 | _ => none)
theorem zxa : zao Tryz.prog (zsh std) := by
 intro xs p r h hp
 dsimp only [zsh] at h |-
 split at h <;> cases h
 try simp only [L2, L3, std] at hp |-
 rename_i a b c d p
 have hp : zz0 ⟨a, b, c, d, p⟩ := hp
 refine za6 (T := tt) (S := fun L => zad [yif L, yvi L]) (lo := fun L => txtA L ⟨a, b, c, d, p⟩) (lb := noA) 5 (fn := Tryz.f135) rfl rfl (by kernel_rfl) (by kernel_rfl) rfl zab (za1 ⟨zvz, yc6, trivial⟩) (by kernel_rfl) ?_
 intro L P' Q' hL hP hQ
 (cbv; try simp only [syT, true_and, and_true])
 refine ⟨⟨0, ?_⟩, fun i hi => ?_⟩
 · (cbv; try simp only [syT, true_and, and_true])
   (subst hL; subst hQ; simp only [L2, L3, std] at *; try simp only [syS, reduceCtorEq, Int.reduceToNat, Int.reduceAdd, Int.reduceSub] at *)
   exact Nat.zero_le _
 · (cbv; try simp only [syT, true_and, and_true])
   have hi4 : i <= 4 := by
     have hi' := hi
     rw [hL] at hi'
     exact hi'
   refine ⟨fun h1 => ⟨?_, ?_, ?_, i + 1, ?_⟩, fun h1 => ⟨?_, ?_, ?_, ?_, ?_⟩⟩
   · (subst hL; subst hQ; simp only [L2, L3, std] at *; try simp only [syS, reduceCtorEq, Int.reduceToNat, Int.reduceAdd, Int.reduceSub] at *)
     omega
   · (subst hL; subst hQ; simp only [L2, L3, std] at *; try simp only [syS, reduceCtorEq, Int.reduceToNat, Int.reduceAdd, Int.reduceSub] at *)
     have := zxw hp i
     show zkm (_ % _)
     rw [show za2 [a, b, c, d] i % 18446744073709551616 = za2 (ipL ⟨a, b, c, d, p⟩) i from Int.emod_eq_of_lt this.1 this.2]
     exact this
   · (subst hL; subst hQ; simp only [L2, L3, std] at *; try simp only [syS, reduceCtorEq, Int.reduceToNat, Int.reduceAdd, Int.reduceSub] at *)
     omega
   · (cbv; try simp only [syT, true_and, and_true])
     (subst hL; subst hQ; simp only [L2, L3, std] at *; try simp only [syS, reduceCtorEq, Int.reduceToNat, Int.reduceAdd, Int.reduceSub] at *)
     refine ⟨fun k j hk hj => ?_, by omega, by show i + 1 <= 4; omega, by show 4 - (i + 1) + 1 <= 4 - i; omega⟩
     by_cases hk' : k < i
     · rw [zm0 hk', show k - i = 0 by omega]; rfl
     · have : k = i := by omega
       subst this
       rw [zpn (by omega), show k - k = 0 by omega]
       match j, hj with
       | 0, _ =>
         have := zxw hp k
         show AV.str (zcq (za2 [a, b, c, d] k % 18446744073709551616)) = .str (zcq (za2 (ipL ⟨a, b, c, d, p⟩) k))
         rw [show za2 [a, b, c, d] k % 18446744073709551616 = za2 (ipL ⟨a, b, c, d, p⟩) k from Int.emod_eq_of_lt this.1 this.2]
   all_goals
     (subst hL; subst hQ; simp only [L2, L3, std] at *; try simp only [syS, reduceCtorEq, Int.reduceToNat, Int.reduceAdd, Int.reduceSub] at *)
     have h4 : i = 4 := by omega
     subst h4
     have l1 := zlu (zxw hp 0)
     have l2 := zlu (zxw hp 1)
     have l3 := zlu (zxw hp 2)
     have l4 := zlu (zxw hp 3)
     have hp5 : 0 <= p /\ p <= 65535 := hp.2.2.2.2
     have l5 := zlu (n := p) ⟨hp5.1, by omega⟩
     have hj : jnZ [46] (.lst 1 4 fun i x => AV.str (ipT ⟨a, b, c, d, p⟩ i)) = zcq a ++ 46 :: (zcq b ++ 46 :: (zcq c ++ 46 :: zcq d)) := yxn ⟨a, b, c, d, p⟩
     have hm : p % 18446744073709551616 = p := by omega
     simp only [za2, ipL, List.getD_cons_zero, List.getD_cons_succ] at l1 l2 l3 l4
     have hl : (zcq a ++ 46 :: (zcq b ++ 46 :: (zcq c ++ 46 :: zcq d))).length <= 100 := by
       simp only [List.length_append, List.length_cons]; omega
   · refine ⟨fun k hk => ⟨_, rfl⟩, by omega, ?_⟩
     have : Lib.join (zb7 4 fun i x => AV.str (ipT ⟨a, b, c, d, p⟩ i)) [46] = zcq a ++ 46 :: (zcq b ++ 46 :: (zcq c ++ 46 :: zcq d)) := hj
     rw [this]; omega
   · rw [hj, List.length_singleton]; omega
   · rw [hm]; exact ⟨hp5.1, by omega⟩
   · rw [hj, hm, List.length_append, List.length_singleton]; omega
   · rw [hj, hm]
     show _ = plT ⟨a, b, c, d, p⟩
     simp [plT]
theorem yjv {x : Pl} {a b c d p : Int} (h : x = ⟨a, b, c, d, p⟩) : fits1 (plA std x) (.agg [.int .u8 a, .int .u8 b, .int .u8 c, .int .u8 d, .int .u16 p]) := by
 subst h
 show fits1 (.agg [.int .u8 a, .int .u8 b, .int .u8 c, .int .u8 d, .int .u16 p]) _
 simp only [zch, zc1, and_self]
def zp3 (s : List UInt8) : List (List UInt8) := zbg (yik s [58]) [46]
def zsl (s : List UInt8) : List UInt8 := ydl s [58]
def zmb (s : List UInt8) (k : Nat) : Int := wnV (zdd (zp3 s) k)
def yev (s : List UInt8) (k : Nat) : Int := zs0 (zdd (zp3 s) k)
def prtO (s : List UInt8) (k : Nat) : Prop := yev s k = 0 /\ zmb s k <= 255
def yv6 (s : List UInt8) : Prop := yua s [58] = true /\ (zp3 s).length = 4 /\ (∀ k, k < 4 -> prtO s k) /\ zs0 (zsl s) = 0 /\ 1 <= wnV (zsl s) /\ wnV (zsl s) <= 65535
open Classical in
noncomputable def spE (s : List UInt8) : Int := if yv6 s then 0 else 4
noncomputable def spP (s : List UInt8) : Pl := if spE s = 0 then ⟨zmb s 0, zmb s 1, zmb s 2, zmb s 3, wnV (zsl s)⟩ else ⟨0, 0, 0, 0, 0⟩
theorem zq1 {c : UInt8} : ∀ {s : List UInt8} {x : List UInt8}, x ∈ zay c s -> x.length <= s.length
 | [], x, h => by simp [zay] at h; subst h; exact Nat.le_refl _
 | y :: s, x, h => by
   have ih := fun x h => zq1 (c := c) (s := s) (x := x) h
   unfold zay at h
   split at h
   · rcases List.mem_cons.1 h with rfl | h
     · exact Nat.zero_le _
     · have := ih x h; simp; omega
   · split at h
     · rename_i z r hs
       rcases List.mem_cons.1 h with rfl | h
       · have := ih z (by rw [hs]; simp); simp; omega
       · have := ih x (by rw [hs]; simp [h]); simp; omega
     · rename_i hs; exact absurd hs (zq2 _ _)
theorem yn2 (c : UInt8) (s : List UInt8) (k : Nat) : (zdd (zay c s) k).length <= s.length := by
 rw [zdd, List.getD_eq_getElem?_getD]
 cases h : (zay c s)[k]? with
 | none => exact Nat.zero_le _
 | some x => exact zq1 (List.mem_of_getElem? h)
theorem ysk (s : List UInt8) : 0 <= wnV s := by
 unfold wnV
 split
 · exact Int.natCast_nonneg _
 · exact Int.le_refl _
theorem yij (s sep : List UInt8) : (yik s sep).length <= s.length := by
 unfold yik
 split
 · exact Nat.le_refl _
 · rw [List.length_take]; omega
theorem yii (s sep : List UInt8) : (ydl s sep).length <= s.length := by
 unfold ydl
 split
 · exact Nat.zero_le _
 · rw [List.length_drop]; omega
theorem zkp {s : List UInt8} (h : ¬ yv6 s) : fits1 (plA std (spP s)) (.agg [.int .u8 0, .int .u8 0, .int .u8 0, .int .u8 0, .int .u16 0]) /\ 4 = spE s := by
 have e : spE s = 4 := if_neg h
 exact ⟨yjv (if_neg (by rw [e]; decide)), e.symm⟩
noncomputable def yms (L : zaa) : zb4 := (133, fun xs => match xs with
 | [.str s] => some (L2 L upto 1000000 s, .tup [plA L (L spP s), .int .i64 (L spE s)])
 | _ => none)
def ipZ (s : List UInt8) (i k : Nat) : Int := if k < i then zmb s k else 0
def ys8 (s : List UInt8) (i : Nat) : Prop := i <= 4 /\ ∀ k, k < i -> prtO s k
def parA (L : zaa) (s : List UInt8) : Nat -> St -> Option Ann := fun id st => match id with
 | 0 => some ⟨Nat, fun i => [(30, .int .i64 (L zan i)), (2, .ref 2 0), (4, .ref 4 0)],
     fun i => [(2, .box 32 [.int .u8 0, .int .u8 0, .int .u8 0, .int .u8 0, .int .u16 0]), (4, .box 32 [.int .u8 (L (L2 L ipZ s i) 0), .int .u8 (L (L2 L ipZ s i) 1), .int .u8 (L (L2 L ipZ s i) 2), .int .u8 (L (L2 L ipZ s i) 3), .int .u16 0])], [8, 28, 29], [],
     fun i => L2 L ys8 s i, fun i => L to4 i⟩
 | _ => none
theorem ygk : zao Tryz.prog (yms std) := by
 intro xs p r h hp
 dsimp only [yms] at h |-
 split at h <;> cases h
 try simp only [L2, L3, std] at hp |-
 rename_i s
 have hp : s.length <= 1000000 := hp
 refine za6 (T := tt) (S := fun L => zad [yp6 L, yfh L, zzf L]) (lo := fun L => parA L s) (lb := noA) 5 (fn := Tryz.f133) rfl rfl (by kernel_rfl) (by kernel_rfl) rfl zab (za1 ⟨yih, zuj, zzg, trivial⟩) (by kernel_rfl) ?_
 intro L P' Q' hL hP hQ
 have hcl := yij s [58]
 have hbl := yii s [58]
 (cbv; try simp only [syT, true_and, and_true])
 refine ⟨?_, ?_, fun h => ?_, fun h1 => ⟨fun h => ?_, fun h2 => ⟨⟨0, ?_⟩, fun i hi => ?_⟩⟩⟩
 · (subst hL; subst hQ; simp only [L2, L3, std] at *; try simp only [syS, reduceCtorEq, Int.reduceToNat, Int.reduceAdd, Int.reduceSub] at *)
   exact ⟨rfl, by show s.length <= _; omega⟩
 · (subst hL; subst hQ; simp only [L2, L3, std] at *; try simp only [syS, reduceCtorEq, Int.reduceToNat, Int.reduceAdd, Int.reduceSub] at *)
   exact ⟨rfl, by show (yik s [58]).length <= _; omega⟩
 · (subst hL; subst hQ; simp only [L2, L3, std] at *; try simp only [syS, reduceCtorEq, Int.reduceToNat, Int.reduceAdd, Int.reduceSub] at *)
   exact zkp fun x => by rw [x.1] at h; cases h
 · (subst hL; subst hQ; simp only [L2, L3, std] at *; try simp only [syS, reduceCtorEq, Int.reduceToNat, Int.reduceAdd, Int.reduceSub] at *)
   exact zkp fun x => h (by have := x.2.1; show ((zp3 s).length : Int) = 4; omega)
 · (cbv; try simp only [syT, true_and, and_true])
   (subst hL; subst hQ; simp only [L2, L3, std] at *; try simp only [syS, reduceCtorEq, Int.reduceToNat, Int.reduceAdd, Int.reduceSub] at *)
   exact ⟨rfl, rfl, rfl, rfl, Nat.zero_le _, fun k hk => by omega⟩
 · cbv at hi
   (cbv; try simp only [syT, true_and, and_true])
   have hpl : ∀ k, (zdd (zp3 s) k).length <= 1000000 := fun k => Nat.le_trans (yn2 _ _ k) (by omega)
   refine ⟨fun h3 => ⟨?_, ?_, fun h4 => ?_, fun h4 => ⟨fun h5 => ?_, fun h5 => ⟨?_, i + 1, ?_⟩⟩⟩, fun h3 => ⟨?_, fun h4 => ⟨fun h5 => ⟨fun h6 => ?_, fun h6 => ?_⟩, fun h5 => ?_⟩, fun h4 => ?_⟩⟩
   · (subst hL; subst hQ; simp only [L2, L3, std] at *; try simp only [syS, reduceCtorEq, Int.reduceToNat, Int.reduceAdd, Int.reduceSub] at *)
     omega
   · (subst hL; subst hQ; simp only [L2, L3, std] at *; try simp only [syS, reduceCtorEq, Int.reduceToNat, Int.reduceAdd, Int.reduceSub] at *)
     exact hpl i
   · (subst hL; subst hQ; simp only [L2, L3, std] at *; try simp only [syS, reduceCtorEq, Int.reduceToNat, Int.reduceAdd, Int.reduceSub] at *)
     exact zkp fun x => h4 (x.2.2.1 i (by omega)).1
   · (subst hL; subst hQ; simp only [L2, L3, std] at *; try simp only [syS, reduceCtorEq, Int.reduceToNat, Int.reduceAdd, Int.reduceSub] at *)
     have h5 : 255 < zmb s i := h5
     exact zkp fun x => by have := (x.2.2.1 i (by omega)).2; omega
   · (subst hL; subst hQ; simp only [L2, L3, std] at *; try simp only [syS, reduceCtorEq, Int.reduceToNat, Int.reduceAdd, Int.reduceSub] at *)
     omega
   · (cbv; try simp only [syT, true_and, and_true])
     (subst hL; subst hQ; simp only [L2, L3, std] at *; try simp only [syS, reduceCtorEq, Int.reduceToNat, Int.reduceAdd, Int.reduceSub] at *)
     have h4 : yev s i = 0 := h4
     have h5 : zmb s i <= 255 := h5
     have h0 : 0 <= zmb s i := ysk _
     have hm : wnV (zdd (zbg (yik s [58]) [46]) i) % 256 = zmb s i := by
       show zmb s i % 256 = zmb s i
       omega
     rw [hm]
     have cell : ∀ k, (cond (zak i k) (zmb s i) (ipZ s i k)) = ipZ s (i + 1) k := by
       intro k
       by_cases hik : i = k
       · subst hik
         rw [za7, ipZ, ipZ, if_pos (show i < i + 1 by omega)]; rfl
       · rw [zah hik]
         show ipZ s i k = _
         rw [ipZ, ipZ]
         by_cases hlt : k < i
         · rw [if_pos hlt, if_pos (by omega)]
         · rw [if_neg hlt, if_neg (by omega)]
     have hi4 : i < 4 := by omega
     refine ⟨cell 3, cell 2, cell 1, cell 0, by omega, ⟨by omega, fun k hk => ?_⟩, by show 4 - (i + 1) + 1 <= 4 - i; omega⟩
     by_cases hki : k = i
     · rw [hki]; exact ⟨h4, h5⟩
     · exact hi.2 k (by omega)
   · (subst hL; subst hQ; simp only [L2, L3, std] at *; try simp only [syS, reduceCtorEq, Int.reduceToNat, Int.reduceAdd, Int.reduceSub] at *)
     show (ydl s [58]).length <= 1000000
     omega
   all_goals
     (subst hL; subst hQ; simp only [L2, L3, std] at *; try simp only [syS, reduceCtorEq, Int.reduceToNat, Int.reduceAdd, Int.reduceSub] at *)
     have hi4 : i = 4 := by have := hi.1; omega
     subst hi4
   · have hok : yv6 s := ⟨h1, by show zhv (zp3 s) = 4; have h2 : ((zhv (zp3 s) : Nat) : Int) = 4 := h2; omega, hi.2, h4, h5, h6⟩
     have hE : spE s = 0 := if_pos hok
     refine ⟨yjv ?_, hE.symm⟩
     rw [spP, if_pos hE, show wnV (ydl s [58]) % 65536 = wnV (ydl s [58]) by omega]
     rfl
   · exact zkp fun x => by have := x.2.2.2.2.2; have h6 : 65535 < wnV (zsl s) := h6; omega
   · exact zkp fun x => by have := x.2.2.2.2.1; have h5 : wnV (zsl s) < 1 := h5; omega
   · exact zkp fun x => h4 x.2.2.2.1
end Sy
end Go.Proofs.YthppjaoicibeiaaGreatDoor
namespace Go.Proofs.YthppjaoicibeiaaGreatDoor
namespace Sy
open Go Go.RowKit
set_option maxRecDepth 100000
set_option linter.unusedSimpArgs false
set_option linter.unusedVariables false
def spC (s : List UInt8) (c : Int) : List (List UInt8) := zay (ub c) s
theorem ylg (s : List UInt8) (c : Int) : (spC s c).length <= s.length + 1 := by
 rw [spC, zb5]
 have := List.count_le_length (a := ub c) (l := s)
 omega
theorem zgc {c : UInt8} : ∀ {u : List UInt8} {v : List UInt8}, (∀ x ∈ u, x ≠ c) -> zay c (u ++ c :: v) = u :: zay c v
 | [], v, _ => by simp [zay]
 | x :: u, v, h => by
   have ih := zgc (u := u) (v := v) (fun y hy => h y (by simp [hy]))
   rw [List.cons_append, zay, if_neg (h x (by simp)), ih]
theorem zwi {c : UInt8} {u : List UInt8} (h : ∀ x ∈ u, x ≠ c) : zay c u = [u] := zfq fun k hk => h c (List.mem_of_getElem? hk) rfl
theorem yte {s : List UInt8} {c : UInt8} {m : Nat} (h0 : ∀ k, k < m -> s[k]? ≠ some c) (h : s[m]? = some c) : Lib.indexByte s c = m := by
 by_cases hn : Lib.indexByte s c < 0
 · exact absurd h (ycg hn m)
 · obtain ⟨h1, h2, h3⟩ := zqv hn
   rcases Nat.lt_trichotomy (Lib.indexByte s c).toNat m with hlt | heq | hgt
   · exact absurd h1 (h0 _ hlt)
   · omega
   · exact absurd h (h2 _ hgt)
theorem yo2 {u v : List UInt8} {c : UInt8} (h : ∀ x ∈ u, x ≠ c) : Lib.indexByte (u ++ c :: v) c = u.length := by
 refine yte (fun k hk => ?_) (by simp)
 rw [List.getElem?_append_left hk]
 intro e
 exact h c (List.mem_of_getElem? e) rfl
theorem yp7 {u v : List UInt8} (h : ∀ x ∈ u, x ≠ 58) : yik (u ++ 58 :: v) [58] = u /\ ydl (u ++ 58 :: v) [58] = v /\ yua (u ++ 58 :: v) [58] = true := by
 have e : zj0 (u ++ 58 :: v) [58] = u.length := yo2 h
 rw [yik, ydl, yua, e, if_neg (by omega), if_neg (by omega)]
 refine ⟨by simp, by simp, by simp⟩
theorem yta {u : List UInt8} (h : u.all isD = true) (c : UInt8) (hc : isD c = false) : ∀ x ∈ u, x ≠ c := by
 intro x hx e
 subst e
 rw [List.all_eq_true.1 h x hx] at hc
 cases hc
theorem zjj {n : Int} (c : UInt8) (hc : isD c = false) : ∀ x ∈ zcq n, x ≠ c := yta (ykf n.toNat).1 c hc
def zqz (x : Pl) : List UInt8 := zcq x.a ++ 46 :: (zcq x.b ++ 46 :: (zcq x.c ++ 46 :: zcq x.d))
theorem yl7 (x : Pl) : plT x = zqz x ++ 58 :: zcq x.p := by simp [plT, zqz]
theorem yo7 (x : Pl) : ∀ y ∈ zqz x, y ≠ 58 := by
 have hd : isD 58 = false := by decide
 intro y hy
 simp only [zqz, List.mem_append, List.mem_cons] at hy
 rcases hy with h | rfl | h | rfl | h | rfl | h
 · exact zjj 58 hd y h
 · decide
 · exact zjj 58 hd y h
 · decide
 · exact zjj 58 hd y h
 · decide
 · exact zjj 58 hd y h
theorem zy3 (x : Pl) : zbg (zqz x) [46] = [zcq x.a, zcq x.b, zcq x.c, zcq x.d] := by
 have hd : isD 46 = false := by decide
 show zay 46 (zqz x) = _
 rw [zqz, zgc (zjj 46 hd), zgc (zjj 46 hd), zgc (zjj 46 hd), zwi (zjj 46 hd)]
theorem yf9 {n : Int} (h : 0 <= n /\ n <= 255) : zkm n := ⟨h.1, by omega⟩
theorem ylf {x : Pl} (h : zz0 x) : (1 <= x.p -> spE (plT x) = 0 /\ spP (plT x) = x) /\ (x.p = 0 -> spE (plT x) = 4) := by
 obtain ⟨c1, c2, c3⟩ := yp7 (u := zqz x) (v := zcq x.p) (yo7 x)
 rw [<- yl7] at c1 c2 c3
 obtain ⟨ha, hb, hc, hd, hp⟩ := h
 have hh : zp3 (plT x) = [zcq x.a, zcq x.b, zcq x.c, zcq x.d] := by rw [zp3, c1, zy3]
 have na := zem (yf9 ha)
 have nb := zem (yf9 hb)
 have nc := zem (yf9 hc)
 have nd := zem (yf9 hd)
 have np := zem (n := x.p) ⟨hp.1, by omega⟩
 have hport : zsl (plT x) = zcq x.p := c2
 have v0 : zmb (plT x) 0 = x.a := by rw [zmb, hh]; exact na.2
 have v1 : zmb (plT x) 1 = x.b := by rw [zmb, hh]; exact nb.2
 have v2 : zmb (plT x) 2 = x.c := by rw [zmb, hh]; exact nc.2
 have v3 : zmb (plT x) 3 = x.d := by rw [zmb, hh]; exact nd.2
 have e0 : yev (plT x) 0 = 0 := by rw [yev, hh]; exact na.1
 have e1 : yev (plT x) 1 = 0 := by rw [yev, hh]; exact nb.1
 have e2 : yev (plT x) 2 = 0 := by rw [yev, hh]; exact nc.1
 have e3 : yev (plT x) 3 = 0 := by rw [yev, hh]; exact nd.1
 refine ⟨fun h1 => ?_, fun h0 => if_neg fun hk => ?_⟩
 · have hok : yv6 (plT x) := by
     refine ⟨c3, by rw [hh]; rfl, fun k hk => ?_, by rw [hport]; exact np.1, by rw [hport, np.2]; exact h1, by rw [hport, np.2]; exact hp.2⟩
     match k, hk with
     | 0, _ => exact ⟨e0, by rw [v0]; exact ha.2⟩
     | 1, _ => exact ⟨e1, by rw [v1]; exact hb.2⟩
     | 2, _ => exact ⟨e2, by rw [v2]; exact hc.2⟩
     | 3, _ => exact ⟨e3, by rw [v3]; exact hd.2⟩
   have hE : spE (plT x) = 0 := if_pos hok
   refine ⟨hE, ?_⟩
   rw [spP, if_pos hE, v0, v1, v2, v3, hport, np.2]
 · have := hk.2.2.2.2.1
   rw [hport, np.2, h0] at this
   omega
def u8ok (c : Int) : Prop := 0 <= c /\ c < 256
def zw0 (c : Int) : Int := if 48 <= c /\ c <= 57 then c - 48 else if 97 <= c /\ c <= 102 then c - 87 else 16
def yp3 (L : zaa) : zb4 := (72, fun xs => match xs with | [.int .u8 c] => some (L u8ok c, .int .u8 (L zw0 c)) | _ => none)
theorem yig : zao Tryz.prog (yp3 std) := by
 intro xs p r h hp
 dsimp only [yp3] at h |-
 split at h <;> cases h
 try simp only [L2, L3, std] at hp |-
 rename_i c
 have hp : 0 <= c /\ c < 256 := hp
 refine za6 (T := tt) (S := noS) (lo := noA) (lb := noA) 5 (fn := Tryz.f72) rfl rfl (by kernel_rfl) (by kernel_rfl) rfl zab (zbh _) (by kernel_rfl) ?_
 (intro L P1 Q1 hL hP hQ; cbv; subst hL; simp only [L2, L3, std, syT]; subst hQ)
 (simp only [syS, reduceCtorEq, Int.reduceToNat, Int.reduceAdd, Int.reduceSub])
 unfold zw0
 refine ⟨fun h1 => ⟨fun h2 => ?_, fun h2 => ⟨fun h3 => ⟨fun h4 => ?_, fun h4 => ?_⟩, fun h3 => ?_⟩⟩, fun h1 => ⟨fun h3 => ⟨fun h4 => ?_, fun h4 => ?_⟩, fun h3 => ?_⟩⟩
 all_goals (repeat' split) <;> omega
def zm7 (l : List Int) : Prop := l.length = 16 /\ ∀ x ∈ l, 0 <= x /\ x < 256
theorem znz : ∀ {cs : List AV} {k : IntKind} {l : List Int}, zzp cs = some (k, l) -> cs = l.map (fun x => AV.int k x)
 | [], _, _, h => by cases h
 | [x], k, l, h => by
   cases x <;> cases h
   rfl
 | x :: y :: r, k, l, h => by
   cases x with
   | int k' n =>
     unfold zzp at h
     split at h
     · rename_i k2 l2 h2
       split at h
       · rename_i hk
         cases h
         have := of_decide_eq_true hk
         subst this
         rw [znz h2]; rfl
       · cases h
     · cases h
   | _ => cases h
def yqs : List UInt8 := [48, 49, 50, 51, 52, 53, 54, 55, 56, 57, 97, 98, 99, 100, 101, 102]
def zpu (n : Int) : Int := ze2 yqs n
def zmg (l : List Int) : List Int := l.flatMap fun b => [zpu (b / 16), zpu (b % 16)]
def zjp (l : List Int) : List UInt8 := (zmg l).map fun x => UInt8.ofNat x.toNat
theorem zgk : ∀ l : List Int, (zmg l).length = 2 * l.length
 | [] => rfl
 | b :: l => by
   have := zgk l
   unfold zmg at *
   rw [List.flatMap_cons, List.length_append, this]
   simp; omega
theorem zp6 : ∀ (l : List Int) (i : Nat), i < l.length -> za2 (zmg l) (2 * i) = zpu (za2 l i / 16) /\ za2 (zmg l) (2 * i + 1) = zpu (za2 l i % 16)
 | b :: l, 0, _ => ⟨rfl, rfl⟩
 | b :: l, i + 1, h => by
   have := zp6 l i (by simpa using h)
   have e : zmg (b :: l) = zpu (b / 16) :: zpu (b % 16) :: zmg l := rfl
   rw [e, show 2 * (i + 1) = 2 * i + 1 + 1 by omega]
   exact this
theorem yjj {b : Int} (h : 0 <= b /\ b < 256) : zrw .u8 b 4 = b / 16 := by
 unfold zrw
 rw [Int.fdiv_eq_ediv_of_nonneg _ (by decide)]; rfl
theorem yko {b : Int} (h : 0 <= b /\ b < 256) : zty .u8 b 15 = b % 16 := by
 obtain ⟨n, rfl⟩ := Int.eq_ofNat_of_zero_le h.1
 have hn : n < 256 := by omega
 have key : ∀ n : _root_.Fin 256, zty .u8 (n.val : Int) 15 = (n.val : Int) % 16 := by decide +kernel
 exact key ⟨n, hn⟩
def zs1 (i : Nat) : Nat := 2 * i
def yvh (i : Nat) : Prop := i <= 16
def ywg (i : Nat) : Nat := 16 - i
def ftxA (L : zaa) (l : List Int) : Nat -> St -> Option Ann := fun id st => match id with
 | 0 => some ⟨Nat, fun i => [(7, .int .i64 (L zan i)), (3, .sl 900 1 0 (L zs1 i))], fun i => [(900, .row 5 1 (L zs1 i) (fun q _ => .int .u8 (L2 L za2 (L zmg l) q)))], [6], [], fun i => L yvh i, fun i => L ywg i⟩
 | _ => none
def c16 (L : zaa) (l : List Int) : AV := .agg [.int .u8 (L2 L za2 l 0), .int .u8 (L2 L za2 l 1), .int .u8 (L2 L za2 l 2), .int .u8 (L2 L za2 l 3), .int .u8 (L2 L za2 l 4), .int .u8 (L2 L za2 l 5), .int .u8 (L2 L za2 l 6), .int .u8 (L2 L za2 l 7), .int .u8 (L2 L za2 l 8), .int .u8 (L2 L za2 l 9), .int .u8 (L2 L za2 l 10), .int .u8 (L2 L za2 l 11), .int .u8 (L2 L za2 l 12), .int .u8 (L2 L za2 l 13), .int .u8 (L2 L za2 l 14), .int .u8 (L2 L za2 l 15)]
theorem l16 {l : List Int} (h : l.length = 16) : ∃ a0 a1 a2 a3 a4 a5 a6 a7 a8 a9 a10 a11 a12 a13 a14 a15, l = [a0, a1, a2, a3, a4, a5, a6, a7, a8, a9, a10, a11, a12, a13, a14, a15] := by
 match l, h with
 | [a0, a1, a2, a3, a4, a5, a6, a7, a8, a9, a10, a11, a12, a13, a14, a15], _ => exact ⟨_, _, _, _, _, _, _, _, _, _, _, _, _, _, _, _, rfl⟩
theorem e16 {l : List Int} (h : l.length = 16) : [za2 l 0, za2 l 1, za2 l 2, za2 l 3, za2 l 4, za2 l 5, za2 l 6, za2 l 7, za2 l 8, za2 l 9, za2 l 10, za2 l 11, za2 l 12, za2 l 13, za2 l 14, za2 l 15] = l := by
 obtain ⟨a0, a1, a2, a3, a4, a5, a6, a7, a8, a9, a10, a11, a12, a13, a14, a15, rfl⟩ : ∃ a0 a1 a2 a3 a4 a5 a6 a7 a8 a9 a10 a11 a12 a13 a14 a15, l = [a0, a1, a2, a3, a4, a5, a6, a7, a8, a9, a10, a11, a12, a13, a14, a15] := by
   match l, h with
   | [a0, a1, a2, a3, a4, a5, a6, a7, a8, a9, a10, a11, a12, a13, a14, a15], _ => exact ⟨_, _, _, _, _, _, _, _, _, _, _, _, _, _, _, _, rfl⟩
 rfl
theorem ye8 {l : List Int} (h : l.length = 16) : AV.agg (l.map fun x => AV.int .u8 x) = c16 std l := by
 conv => lhs; rw [<- e16 h]
 rfl
def yi4 (L : zaa) : zb4 := (26, fun xs => match xs with
 | [.agg cs] => match zzp cs with
   | some (.u8, l) => some (L zm7 l, .str (L zjp l))
   | _ => none
 | _ => none)
theorem n16 {l : List Int} (h : zm7 l) {i : Nat} (hi : i < 16) : 0 <= za2 l i /\ za2 l i < 256 := by
 refine h.2 _ ?_
 have : i < l.length := by rw [h.1]; exact hi
 rw [za2, List.getD_eq_getElem?_getD, List.getElem?_eq_getElem this]
 exact List.getElem_mem _
theorem yo9 {l : List Int} (h : zm7 l) (f : Nat -> Int) (hf : ∀ i, i < zs1 16 -> f i = za2 (zmg l) i) : zb8 (zs1 16) f = zjp l := by
 have e : (zmg l).length = zs1 16 := by rw [zgk, h.1]; rfl
 unfold zb8 zjp
 apply List.ext_getElem
 · simp [e]
 · intro i h1 h2
   have hi : i < zs1 16 := by simpa using h1
   simp only [List.getElem_map, List.getElem_range]
   rw [hf i hi, za2, List.getD_eq_getElem?_getD, List.getElem?_eq_getElem (by rw [e]; exact hi)]; rfl
theorem yml {l : List Int} {i q : Nat} (h : zm7 l) (hi : i < 16) (hq : q < zs1 i + 2) : zgv std (zbo q (zs1 i)) (AV.int .u8 (za2 (zmg l) q)) (AV.int .u8 (za2 [ze2 yqs (zrw .u8 (za2 l i) 4), ze2 yqs (zty .u8 (za2 l i) 15)] (q - zs1 i))) = AV.int .u8 (za2 (zmg l) q) := by
 have hd : zs1 i = 2 * i := rfl
 by_cases hlt : q < zs1 i
 · rw [zm0 hlt]; rfl
 · rw [zpn hlt, yjj (n16 h hi), yko (n16 h hi)]
   obtain ⟨e0, e1⟩ := zp6 l i (by rw [h.1]; exact hi)
   have hq2 : q = 2 * i \/ q = 2 * i + 1 := by omega
   rcases hq2 with rfl | rfl
   · rw [e0, show 2 * i - zs1 i = 0 by omega]; rfl
   · rw [e1, show 2 * i + 1 - zs1 i = 1 by omega]; rfl
theorem zvu : zao Tryz.prog (yi4 std) := by
 intro xs p r h hp
 dsimp only [yi4] at h
 split at h
 rotate_left
 · cases h
 split at h
 rotate_left
 · cases h
 rename_i _ cs _ l hu
 cases h
 obtain rfl := znz hu
 clear hu
 have hp : zm7 l := hp
 obtain ⟨hl, hb⟩ := hp
 have hp : zm7 l := ⟨hl, hb⟩
 rw [ye8 hl]
 show za9 _ _ _ (.str (zjp l))
 refine za8 (T := tt) (S := noS) (lo := fun L => ftxA L l) (lb := noA) 5 (fn := Tryz.f26) (xs := fun L => [c16 L l]) rfl rfl (by kernel_rfl) (by kernel_rfl) rfl zab (zbh _) (by kernel_rfl) ?_
 intro L P' Q' hL hP hQ
 have hE : [L (L za2 l) 0, L (L za2 l) 1, L (L za2 l) 2, L (L za2 l) 3, L (L za2 l) 4, L (L za2 l) 5, L (L za2 l) 6, L (L za2 l) 7, L (L za2 l) 8, L (L za2 l) 9, L (L za2 l) 10, L (L za2 l) 11, L (L za2 l) 12, L (L za2 l) 13, L (L za2 l) 14, L (L za2 l) 15] = l := by subst hL; exact e16 hl
 (cbv; try simp only [syT, true_and, and_true])
 refine ⟨⟨0, ?_⟩, fun i hi => ?_⟩
 · (cbv; try simp only [syT, true_and, and_true])
   (subst hL; subst hQ; simp only [L2, L3, std] at *; try simp only [syS, reduceCtorEq, Int.reduceToNat, Int.reduceAdd, Int.reduceSub] at *)
   exact ⟨rfl, rfl, Nat.zero_le _⟩
 · have hi2 : yvh i := by
     have h := hi
     rw [hL] at h
     exact h
   clear hi
   (cbv; try simp only [syT, true_and, and_true])
   simp only [hE]
   refine ⟨fun hlt => ⟨?_, ?_, ?_, ?_, ?_, ⟨i + 1, ?_⟩⟩, fun hge => ?_⟩
   · (subst hL; subst hQ; simp only [L2, L3, std] at *; try simp only [syS, reduceCtorEq, Int.reduceToNat, Int.reduceAdd, Int.reduceSub] at *)
     omega
   · (subst hL; subst hQ; simp only [L2, L3, std] at *; try simp only [syS, reduceCtorEq, Int.reduceToNat, Int.reduceAdd, Int.reduceSub] at *)
     decide
   · (subst hL; subst hQ; simp only [L2, L3, std] at *; try simp only [syS, reduceCtorEq, Int.reduceToNat, Int.reduceAdd, Int.reduceSub] at *)
     have hi : i < 16 := by omega
     have := n16 hp hi
     rw [yjj this]
     show _ /\ _ < (16 : Int)
     omega
   · (subst hL; subst hQ; simp only [L2, L3, std] at *; try simp only [syS, reduceCtorEq, Int.reduceToNat, Int.reduceAdd, Int.reduceSub] at *)
     have hi : i < 16 := by omega
     have := n16 hp hi
     rw [yko this]
     show _ /\ _ < (16 : Int)
     omega
   · (subst hL; subst hQ; simp only [L2, L3, std] at *; try simp only [syS, reduceCtorEq, Int.reduceToNat, Int.reduceAdd, Int.reduceSub] at *)
     have : zs1 i = 2 * i := rfl
     omega
   · (cbv; try simp only [syT, true_and, and_true])
     (subst hL; subst hQ; simp only [L2, L3, std] at *; try simp only [syS, reduceCtorEq, Int.reduceToNat, Int.reduceAdd, Int.reduceSub] at *)
     have hi : i < 16 := by omega
     have e : (zs1 i).add 2 = zs1 (i + 1) := rfl
     exact ⟨⟨e, fun q j hq _ => yml hp hi (by rw [<- e] at hq; exact hq)⟩, e, by omega, by show i + 1 <= 16; omega, by show 16 - (i + 1) + 1 <= 16 - i; omega⟩
   · (subst hL; subst hQ; simp only [L2, L3, std] at *; try simp only [syS, reduceCtorEq, Int.reduceToNat, Int.reduceAdd, Int.reduceSub] at *)
     have hi : i <= 16 := hi2
     obtain rfl : i = 16 := by omega
     exact ⟨⟨by omega, fun q _ => ⟨_, rfl⟩⟩, yo9 hp _ fun q _ => by rw [Nat.zero_add]; rfl⟩
def zpv (l : List Int) : Bool := l.all fun x => decide (x = 0)
def yf5 (L : zaa) : zb4 := (29, fun xs => match xs with
 | [.agg cs] => match zzp cs with
   | some (.u8, l) => some (L zm7 l, .bool (L zpv l))
   | _ => none
 | _ => none)
theorem zu5 : zao Tryz.prog (yf5 std) := by
 intro xs p r h hp
 dsimp only [yf5] at h
 split at h
 rotate_left
 · cases h
 split at h
 rotate_left
 · cases h
 rename_i _ cs _ l hu
 cases h
 obtain rfl := znz hu
 clear hu
 have hp : zm7 l := hp
 obtain ⟨hl, hb⟩ := hp
 have hp : zm7 l := ⟨hl, hb⟩
 rw [ye8 hl]
 show za9 _ _ _ (.bool (zpv l))
 obtain ⟨a0, a1, a2, a3, a4, a5, a6, a7, a8, a9, a10, a11, a12, a13, a14, a15, rfl⟩ := l16 hl
 refine za8 (T := tt) (S := noS) (lo := fun _ => noA std) (lb := noA) 5 (fn := Tryz.f29) (xs := fun L => [.agg [.int .u8 a0, .int .u8 a1, .int .u8 a2, .int .u8 a3, .int .u8 a4, .int .u8 a5, .int .u8 a6, .int .u8 a7, .int .u8 a8, .int .u8 a9, .int .u8 a10, .int .u8 a11, .int .u8 a12, .int .u8 a13, .int .u8 a14, .int .u8 a15]]) rfl rfl (by kernel_rfl) (by kernel_rfl) rfl zab (zbh _) (by kernel_rfl) ?_
 intro L P' Q' hL hP hQ
 (cbv; try simp only [syT, true_and, and_true])
 (subst hL; subst hQ; simp only [L2, L3, std] at *; try simp only [syS, reduceCtorEq, Int.reduceToNat, Int.reduceAdd, Int.reduceSub] at *)
 simp [zpv, ieq, za2, Bool.beq_eq_decide_eq]
def yoa (l : List Int) (i : Nat) : List UInt8 := zjp (l.take i)
def rftA (L : zaa) (l : List Int) : Nat -> St -> Option Ann := fun id st => match id with
 | 0 => some ⟨Nat, fun i => [(4, .int .i64 (L zan i)), (3, .str (L2 L yoa l i))], fun i => [], [1], [1], fun i => L yvh i, fun i => L ywg i⟩
 | _ => none
theorem yv2 {a : Int} (h : 0 <= a /\ a < 100) : (a + 9223372036854775808) % 18446744073709551616 - 9223372036854775808 = a := by omega
theorem ys4 {b : Int} (h : 0 <= b /\ b < 256) : yw2 .u8 b 16 = b / 16 := by
 obtain ⟨n, rfl⟩ := Int.eq_ofNat_of_zero_le h.1
 have hn : n < 256 := by omega
 have key : ∀ n : _root_.Fin 256, yw2 .u8 (n.val : Int) 16 = (n.val : Int) / 16 := by decide +kernel
 exact key ⟨n, hn⟩
theorem yki {a : Int} (h : 0 <= a /\ a < 16) : List.drop a.toNat (List.take (a + 1).toNat yqs) = [UInt8.ofNat (zpu a).toNat] := by
 obtain ⟨n, rfl⟩ := Int.eq_ofNat_of_zero_le h.1
 have hn : n < 16 := by omega
 have key : ∀ n : _root_.Fin 16, List.drop (n.val : Int).toNat (List.take ((n.val : Int) + 1).toNat yqs) = [UInt8.ofNat (zpu (n.val : Int)).toNat] := by decide +kernel
 exact key ⟨n, hn⟩
theorem ycr {l : List Int} {i : Nat} (h : i < l.length) : yoa l (i + 1) = yoa l i ++ [UInt8.ofNat (zpu (za2 l i / 16)).toNat] ++ [UInt8.ofNat (zpu (za2 l i % 16)).toNat] := by
 unfold yoa zjp zmg
 rw [List.take_succ_eq_append_getElem h, List.flatMap_append, List.map_append, za2, List.getD_eq_getElem?_getD, List.getElem?_eq_getElem h]
 simp
theorem yhw (l : List Int) (i : Nat) : (yoa l i).length <= 2 * l.length := by
 unfold yoa zjp
 rw [List.length_map, zgk, List.length_take]; omega
def yma (L : zaa) : zb4 := (28, fun xs => match xs with
 | [.agg cs] => match zzp cs with
   | some (.u8, l) => some (L zm7 l, .str (L zjp l))
   | _ => none
 | _ => none)
theorem yga : zao Tryz.prog (yma std) := by
 intro xs p r h hp
 dsimp only [yma] at h
 split at h
 rotate_left
 · cases h
 split at h
 rotate_left
 · cases h
 rename_i _ cs _ l hu
 cases h
 obtain rfl := znz hu
 clear hu
 have hp : zm7 l := hp
 obtain ⟨hl, hb⟩ := hp
 have hp : zm7 l := ⟨hl, hb⟩
 rw [ye8 hl]
 show za9 _ _ _ (.str (zjp l))
 refine za8 (T := tt) (S := noS) (lo := fun L => rftA L l) (lb := noA) 5 (fn := Tryz.f28) (xs := fun L => [c16 L l]) rfl rfl (by kernel_rfl) (by kernel_rfl) rfl zab (zbh _) (by kernel_rfl) ?_
 intro L P' Q' hL hP hQ
 have hE : [L (L za2 l) 0, L (L za2 l) 1, L (L za2 l) 2, L (L za2 l) 3, L (L za2 l) 4, L (L za2 l) 5, L (L za2 l) 6, L (L za2 l) 7, L (L za2 l) 8, L (L za2 l) 9, L (L za2 l) 10, L (L za2 l) 11, L (L za2 l) 12, L (L za2 l) 13, L (L za2 l) 14, L (L za2 l) 15] = l := by subst hL; exact e16 hl
 (cbv; try simp only [syT, true_and, and_true])
 refine ⟨⟨0, ?_⟩, fun i hi => ?_⟩
 · (cbv; try simp only [syT, true_and, and_true])
   (subst hL; subst hQ; simp only [L2, L3, std] at *; try simp only [syS, reduceCtorEq, Int.reduceToNat, Int.reduceAdd, Int.reduceSub] at *)
   exact ⟨rfl, Nat.zero_le _⟩
 · have hi2 : yvh i := by
     have h := hi
     rw [hL] at h
     exact h
   clear hi
   (cbv; try simp only [syT, true_and, and_true])
   simp only [hE]
   refine ⟨fun hlt => ⟨?_, ?_, ?_, ?_, ?_, ?_, ?_, ?_, ⟨i + 1, ?_⟩⟩, fun hge => ?_⟩
   all_goals try (cbv; try simp only [syT, true_and, and_true])
   all_goals (subst hL; subst hQ; simp only [L2, L3, std] at *; try simp only [syS, reduceCtorEq, Int.reduceToNat, Int.reduceAdd, Int.reduceSub] at *)
   all_goals clear hE
   rotate_right
   · have hi : i <= 16 := hi2
     obtain rfl : i = 16 := by omega
     rw [yoa, <- hl, List.take_length]
   all_goals have hi : i < 16 := by omega
   all_goals have hn := n16 hp hi
   all_goals generalize hbn : za2 l i = b at hn |-
   all_goals try rw [ys4 hn]
   all_goals try rw [Int.tmod_eq_emod_of_nonneg hn.1]
   all_goals try rw [yv2 (a := b / 16) (by omega)]
   all_goals try rw [yv2 (a := b / 16 + 1) (by omega)]
   all_goals try rw [yv2 (a := b % 16) (by omega)]
   all_goals try rw [yv2 (a := b % 16 + 1) (by omega)]
   all_goals have hc1 := yki (a := b / 16) (by omega)
   all_goals have hc2 := yki (a := b % 16) (by omega)
   all_goals unfold yqs at hc1 hc2
   all_goals try rw [hc1]
   all_goals try rw [hc2]
   all_goals have hz := yhw l i
   · omega
   · decide
   · omega
   · decide
   · show _ /\ _ /\ _ <= (16 : Int)
     omega
   · rw [List.length_singleton]; omega
   · show _ /\ _ /\ _ <= (16 : Int)
     omega
   · rw [List.length_append, List.length_singleton, List.length_singleton]; omega
   · rw [ycr (by omega), hbn]
     exact ⟨rfl, by omega, by show i + 1 <= 16; omega, by show 16 - (i + 1) + 1 <= 16 - i; omega⟩
def zhf (s : List UInt8) (q : Nat) : Int := zw0 (ze2 s q)
def zcv (s : List UInt8) : Bool := decide (s.length = 32) && (List.range 32).all fun q => decide (zhf s q <= 15)
def ys7 (s : List UInt8) (q : Nat) : Int := zhf s (2 * q) * 16 + zhf s (2 * q + 1)
def ys9 (s : List UInt8) (i q : Nat) : Int := if q < i then ys7 s q else 0
def zjf (s : List UInt8) : List Int := if zcv s = true then (List.range 16).map (ys7 s) else List.replicate 16 0
def ymu (s : List UInt8) : Int := if zcv s = true then 0 else 4
def parI (s : List UInt8) (i : Nat) : Prop := i <= 16 /\ ∀ q, q < 2 * i -> zhf s q <= 15
def paA (L : zaa) (s : List UInt8) : Nat -> St -> Option Ann := fun id st => match id with
 | 0 => some ⟨Nat, fun i => [(11, .int .i64 (L zan i))], fun i => [(4, .row 68 1 16 (fun q _ => .int .u8 (L3 L ys9 s i q)))], [0, 2, 3, 4], [2], fun i => L2 L parI s i, fun i => L ywg i⟩
 | _ => none
def yok (L : zaa) : zb4 := (27, fun xs => match xs with | [.str s] => some (L2 L upto 1000000 s, .tup [c16 L (L zjf s), .int .i64 (L ymu s)]) | _ => none)
theorem yu8 {c : Int} (h : 0 <= c /\ c < 256) : 0 <= zw0 c /\ zw0 c <= 16 := by
 unfold zw0
 repeat' split
 all_goals omega
theorem zks (s : List UInt8) (i : Int) : 0 <= ze2 s i /\ ze2 s i < 256 := by
 unfold ze2
 have := (s.getD i.toNat 0).toNat_lt
 omega
theorem zj6 (s : List UInt8) (q : Nat) : 0 <= zhf s q /\ zhf s q <= 16 := yu8 (zks _ _)
theorem zu6 {s : List UInt8} {q : Nat} (hq : q < 32) (h : 15 < zhf s q) : zcv s = false := by
 unfold zcv
 have : ((List.range 32).all fun q => decide (zhf s q <= 15)) = false := by
   rw [List.all_eq_false]
   exact ⟨q, List.mem_range.2 hq, by simp; omega⟩
 rw [this, Bool.and_false]
theorem zza {s : List UInt8} (h : ¬ s.length = 32) : zcv s = false := by
 unfold zcv
 rw [decide_eq_false h, Bool.false_and]
theorem zuo {s : List UInt8} (hl : s.length = 32) (h : ∀ q, q < 32 -> zhf s q <= 15) : zcv s = true := by
 unfold zcv
 rw [decide_eq_true hl, Bool.true_and, List.all_eq_true]
 intro q hq
 exact decide_eq_true (h q (List.mem_range.1 hq))
theorem ybg {n i : Nat} (h : i < n) (f : Nat -> Int) : za2 ((List.range n).map f) i = f i := by
 rw [za2, List.getD_eq_getElem?_getD, List.getElem?_map, List.getElem?_range h]; rfl
theorem yb6 {s : List UInt8} (h : zcv s = false) (j : Nat) : za2 (zjf s) j = 0 := by
 rw [zjf, if_neg (by rw [h]; decide), za2, List.getD_eq_getElem?_getD, List.getElem?_replicate]
 split <;> rfl
theorem zod {s : List UInt8} (h : zcv s = true) {j : Nat} (hj : j < 16) : za2 (zjf s) j = ys7 s j := by
 rw [zjf, if_pos h]
 exact ybg hj _
theorem yrn {a b : Int} (ha : 0 <= a /\ a <= 15) (hb : 0 <= b /\ b <= 15) : bor .u8 (yjf .u8 a 4) b = a * 16 + b := by
 obtain ⟨n, rfl⟩ := Int.eq_ofNat_of_zero_le ha.1
 obtain ⟨m, rfl⟩ := Int.eq_ofNat_of_zero_le hb.1
 have hn : n < 16 := by omega
 have hm : m < 16 := by omega
 have key : ∀ n : _root_.Fin 16, ∀ m : _root_.Fin 16, bor .u8 (yjf .u8 (n.val : Int) 4) (m.val : Int) = (n.val : Int) * 16 + (m.val : Int) := by decide +kernel
 exact key ⟨n, hn⟩ ⟨m, hm⟩
theorem yop (f : Nat -> Int) (l : List Int) (h : ∀ j, j < 16 -> f j = za2 l j) : fits1 (c16 std l) (.agg [.int .u8 (za2 [f 0, f 1, f 2, f 3, f 4, f 5, f 6, f 7, f 8, f 9, f 10, f 11, f 12, f 13, f 14, f 15] 0), .int .u8 (za2 [f 0, f 1, f 2, f 3, f 4, f 5, f 6, f 7, f 8, f 9, f 10, f 11, f 12, f 13, f 14, f 15] 1), .int .u8 (za2 [f 0, f 1, f 2, f 3, f 4, f 5, f 6, f 7, f 8, f 9, f 10, f 11, f 12, f 13, f 14, f 15] 2), .int .u8 (za2 [f 0, f 1, f 2, f 3, f 4, f 5, f 6, f 7, f 8, f 9, f 10, f 11, f 12, f 13, f 14, f 15] 3), .int .u8 (za2 [f 0, f 1, f 2, f 3, f 4, f 5, f 6, f 7, f 8, f 9, f 10, f 11, f 12, f 13, f 14, f 15] 4), .int .u8 (za2 [f 0, f 1, f 2, f 3, f 4, f 5, f 6, f 7, f 8, f 9, f 10, f 11, f 12, f 13, f 14, f 15] 5), .int .u8 (za2 [f 0, f 1, f 2, f 3, f 4, f 5, f 6, f 7, f 8, f 9, f 10, f 11, f 12, f 13, f 14, f 15] 6), .int .u8 (za2 [f 0, f 1, f 2, f 3, f 4, f 5, f 6, f 7, f 8, f 9, f 10, f 11, f 12, f 13, f 14, f 15] 7), .int .u8 (za2 [f 0, f 1, f 2, f 3, f 4, f 5, f 6, f 7, f 8, f 9, f 10, f 11, f 12, f 13, f 14, f 15] 8), .int .u8 (za2 [f 0, f 1, f 2, f 3, f 4, f 5, f 6, f 7, f 8, f 9, f 10, f 11, f 12, f 13, f 14, f 15] 9), .int .u8 (za2 [f 0, f 1, f 2, f 3, f 4, f 5, f 6, f 7, f 8, f 9, f 10, f 11, f 12, f 13, f 14, f 15] 10), .int .u8 (za2 [f 0, f 1, f 2, f 3, f 4, f 5, f 6, f 7, f 8, f 9, f 10, f 11, f 12, f 13, f 14, f 15] 11), .int .u8 (za2 [f 0, f 1, f 2, f 3, f 4, f 5, f 6, f 7, f 8, f 9, f 10, f 11, f 12, f 13, f 14, f 15] 12), .int .u8 (za2 [f 0, f 1, f 2, f 3, f 4, f 5, f 6, f 7, f 8, f 9, f 10, f 11, f 12, f 13, f 14, f 15] 13), .int .u8 (za2 [f 0, f 1, f 2, f 3, f 4, f 5, f 6, f 7, f 8, f 9, f 10, f 11, f 12, f 13, f 14, f 15] 14), .int .u8 (za2 [f 0, f 1, f 2, f 3, f 4, f 5, f 6, f 7, f 8, f 9, f 10, f 11, f 12, f 13, f 14, f 15] 15)]) := by
 unfold c16
 simp only [zch, zc1, and_true]
 exact ⟨h 0 (by decide), h 1 (by decide), h 2 (by decide), h 3 (by decide), h 4 (by decide), h 5 (by decide), h 6 (by decide), h 7 (by decide), h 8 (by decide), h 9 (by decide), h 10 (by decide), h 11 (by decide), h 12 (by decide), h 13 (by decide), h 14 (by decide), h 15 (by decide)⟩
theorem yi5 : zao Tryz.prog (yok std) := by
 intro xs p r h hp
 dsimp only [yok] at h |-
 split at h <;> cases h
 try simp only [L2, L3, std] at hp |-
 rename_i s
 have hp : s.length <= 1000000 := hp
 refine za6 (T := tt) (S := fun L => zad [yp3 L]) (lo := fun L => paA L s) (lb := noA) 5 (fn := Tryz.f27) rfl rfl (by kernel_rfl) (by kernel_rfl) rfl zab (za1 ⟨yig, trivial⟩) (by kernel_rfl) ?_
 intro L P' Q' hL hP hQ
 (cbv; try simp only [syT, true_and, and_true])
 refine ⟨fun hn => ?_, fun hn => ⟨⟨0, ?_⟩, fun i hi => ?_⟩⟩
 · (subst hL; subst hQ; simp only [L2, L3, std] at *; try simp only [syS, reduceCtorEq, Int.reduceToNat, Int.reduceAdd, Int.reduceSub] at *)
   have h := zza (s := s) (by omega)
   exact ⟨yop (fun _ => 0) _ fun j _ => (yb6 h j).symm, by rw [ymu, if_neg (by rw [h]; decide)]⟩
 · (cbv; try simp only [syT, true_and, and_true])
   (subst hL; subst hQ; simp only [L2, L3, std] at *; try simp only [syS, reduceCtorEq, Int.reduceToNat, Int.reduceAdd, Int.reduceSub] at *)
   refine ⟨fun q j hq hj => ?_, Nat.zero_le _, fun q hq => by omega⟩
   obtain rfl : j = 0 := by omega
   rfl
 · have hi2 : parI s i := by
     have h := hi
     rw [hL] at h
     exact h
   clear hi
   (cbv; try simp only [syT, true_and, and_true])
   refine ⟨fun hlt => ⟨?_, ?_, ?_, ?_, fun hb => ?_, fun hb => ⟨?_, ?_, ⟨i + 1, ?_⟩⟩⟩, fun hge => ?_⟩
   all_goals try (cbv; try simp only [syT, true_and, and_true])
   all_goals (subst hL; subst hQ; simp only [L2, L3, std] at *; try simp only [syS, reduceCtorEq, Int.reduceToNat, Int.reduceAdd, Int.reduceSub] at *)
   rotate_right
   · have hi : i = 16 := by have := hi2.1; omega
     subst hi
     have h := zuo (s := s) (by omega) hi2.2
     exact ⟨yop (ys9 s 16) _ fun j hj => by rw [zod h hj, ys9, if_pos hj], by rw [ymu, if_pos h]⟩
   all_goals have hi : i < 16 := by omega
   all_goals have e1 : (2 * (i : Int) + 9223372036854775808) % 18446744073709551616 - 9223372036854775808 = ((2 * i : Nat) : Int) := by omega
   all_goals try rw [e1]
   all_goals try rw [e1] at hb
   all_goals have e2 : (((2 * i : Nat) : Int) + 1 + 9223372036854775808) % 18446744073709551616 - 9223372036854775808 = ((2 * i + 1 : Nat) : Int) := by omega
   all_goals try rw [e2]
   all_goals try rw [e2] at hb
   · omega
   · exact zks _ _
   · omega
   · exact zks _ _
   · have hb2 : 15 < max (zhf s (2 * i)) (zhf s (2 * i + 1)) := hb
     have h : zcv s = false := by
       by_cases h2 : 15 < zhf s (2 * i)
       · exact zu6 (by omega) h2
       · exact zu6 (q := 2 * i + 1) (by omega) (by omega)
     exact ⟨yop (fun _ => 0) _ fun j _ => (yb6 h j).symm, by rw [ymu, if_neg (by rw [h]; decide)]⟩
   · omega
   · omega
   · have hb2 : max (zhf s (2 * i)) (zhf s (2 * i + 1)) <= 15 := hb
     have k1 := zj6 s (2 * i)
     have k2 := zj6 s (2 * i + 1)
     refine ⟨fun q j hq hj => ?_, by omega, ⟨by omega, fun q hq => ?_⟩, by show 16 - (i + 1) + 1 <= 16 - i; omega⟩
     · obtain rfl : j = 0 := by omega
       show zgv std (zak q i) (AV.int .u8 (bor .u8 (yjf .u8 (zhf s (2 * i)) 4) (zhf s (2 * i + 1)))) (AV.int .u8 (ys9 s i q)) = _
       rw [yrn ⟨k1.1, by omega⟩ ⟨k2.1, by omega⟩]
       unfold ys9
       by_cases h : q = i
       · subst h
         rw [za7, if_pos (Nat.lt_succ_self q)]; rfl
       · rw [zah h]
         show AV.int .u8 _ = _
         by_cases h2 : q < i
         · rw [if_pos h2, if_pos (by omega)]; rfl
         · rw [if_neg h2, if_neg (by omega)]; rfl
     · by_cases h : q < 2 * i
       · exact hi2.2 q h
       · have : q = 2 * i \/ q = 2 * i + 1 := by omega
         rcases this with rfl | rfl
         · omega
         · omega
def yng (c : Int) : Bool := decide (97 <= c) && decide (c <= 122)
def yva (c : Int) : Bool := yng c || (decide (48 <= c) && decide (c <= 57))
def ybm (c : Int) : Bool := yva c || (decide (c = 45) || decide (c = 95))
def zk5 (L : zaa) : zb4 := (176, fun xs => match xs with
 | [.int .u8 c] => some (True, .bool (L yng c))
 | _ => none)
theorem zlf : zao Tryz.prog (zk5 std) := by
 intro xs p r h hp
 dsimp only [zk5] at h |-
 split at h <;> cases h
 try simp only [L2, L3, std] at hp |-
 rename_i c
 refine za6 (T := tt) (S := noS) (lo := noA) (lb := noA) 5 (fn := Tryz.f176) rfl rfl (by kernel_rfl) (by kernel_rfl) rfl zab (zbh _) (by kernel_rfl) ?_
 (intro L P1 Q1 hL hP hQ; cbv; subst hL; simp only [L2, L3, std, syT]; subst hQ)
 (simp only [syS, reduceCtorEq, Int.reduceToNat, Int.reduceAdd, Int.reduceSub])
 unfold yng ile
 refine ⟨fun h => by simp [h], fun h => ?_⟩
 rw [decide_eq_false (by omega)]; rfl
def zoc (L : zaa) : zb4 := (177, fun xs => match xs with
 | [.int .u8 c] => some (True, .bool (L yva c))
 | _ => none)
theorem zmw : zao Tryz.prog (zoc std) := by
 intro xs p r h hp
 dsimp only [zoc] at h |-
 split at h <;> cases h
 try simp only [L2, L3, std] at hp |-
 rename_i c
 refine za6 (T := tt) (S := fun L => zad [zk5 L]) (lo := noA) (lb := noA) 5 (fn := Tryz.f177) rfl rfl (by kernel_rfl) (by kernel_rfl) rfl zab (za1 ⟨zlf, trivial⟩) (by kernel_rfl) ?_
 (intro L P1 Q1 hL hP hQ; cbv; subst hL; simp only [L2, L3, std, syT]; subst hQ)
 (simp only [syS, reduceCtorEq, Int.reduceToNat, Int.reduceAdd, Int.reduceSub])
 unfold yva ile
 refine ⟨fun h => by simp [h], fun h => ⟨fun h2 => by simp [h, h2], fun h2 => ?_⟩⟩
 rw [h, decide_eq_false (show ¬ 48 <= c by omega)]; rfl
def yf3 (f : Int -> Bool) (s : List UInt8) : Bool := s.all fun b => f (b.toNat : Int)
def zjq (f : Int -> Bool) (s : List UInt8) (i : Nat) : Prop := i <= s.length /\ ∀ k, k < i -> f (za4 s k) = true
def toC (s : List UInt8) (i : Nat) : Nat := s.length - i
theorem zgo {s : List UInt8} {i : Nat} (h : i < s.length) : za4 s i = (s[i].toNat : Int) := by
 rw [za4, List.getD_eq_getElem?_getD, List.getElem?_eq_getElem h]; rfl
theorem zta (f : Int -> Bool) (s : List UInt8) : zjq f s 0 := ⟨Nat.zero_le _, fun k hk => by omega⟩
theorem zj5 {f : Int -> Bool} {s : List UInt8} {i : Nat} (h : zjq f s i) (hi : i < s.length) (hf : f (za4 s i) = true) : zjq f s (i + 1) :=
 ⟨hi, fun k hk => by
   by_cases e : k = i
   · rw [e]; exact hf
   · exact h.2 k (by omega)⟩
theorem zlr {f : Int -> Bool} {s : List UInt8} {i : Nat} (h : zjq f s i) (hi : s.length <= i) : yf3 f s = true := by
 unfold yf3
 rw [List.all_eq_true]
 intro b hb
 obtain ⟨k, hk, rfl⟩ := List.getElem_of_mem hb
 have := h.2 k (by omega)
 rw [zgo hk] at this
 exact this
theorem zu1 {f : Int -> Bool} {s : List UInt8} {i : Nat} (hi : i < s.length) (hf : f (za4 s i) = false) : yf3 f s = false := by
 unfold yf3
 rw [List.all_eq_false]
 refine ⟨s[i], List.getElem_mem hi, ?_⟩
 rw [zgo hi] at hf
 simp [hf]
def zme (s : List UInt8) : Bool := !decide (s = []) && (!decide (32 < s.length) && (yng (za4 s 0) && yf3 ybm s))
def zva (L : zaa) : zb4 := (137, fun xs => match xs with
 | [.str s] => some (True, .bool (L zme s))
 | _ => none)
def yx9 (L : zaa) (s : List UInt8) : Nat -> St -> Option Ann := fun id st => match id with
 | 0 => some ⟨Nat, fun i => [(19, .int .i64 (L zan i))], fun i => [], [0, 18], [], fun i => L (L2 L zjq ybm s) i, fun i => L2 L toC s i⟩
 | _ => none
theorem zqk : zao Tryz.prog (zva std) := by
 intro xs p r h hp
 dsimp only [zva] at h |-
 split at h <;> cases h
 try simp only [L2, L3, std] at hp |-
 rename_i s
 refine za8 (T := tt) (S := fun L => zad [zk5 L, zoc L]) (lo := fun L => yx9 L s) (lb := noA) 5 (fn := Tryz.f137) (xs := fun L => [.str s]) rfl rfl (by kernel_rfl) (by kernel_rfl) rfl zab (za1 ⟨zlf, zmw, trivial⟩) (by kernel_rfl) ?_
 intro L P' Q' hL hP hQ
 (cbv; try simp only [syT, true_and, and_true])
 refine ⟨fun h => ?_, fun h1 => ⟨fun h => ?_, fun h2 => ⟨?_, fun h => ?_, fun h3 => ⟨⟨0, ?_⟩, fun i hi => ?_⟩⟩⟩⟩
 · (subst hL; subst hQ; simp only [L2, L3, std] at *; try simp only [syS, reduceCtorEq, Int.reduceToNat, Int.reduceAdd, Int.reduceSub] at *)
   rw [zme, decide_eq_true h]; rfl
 · (subst hL; subst hQ; simp only [L2, L3, std] at *; try simp only [syS, reduceCtorEq, Int.reduceToNat, Int.reduceAdd, Int.reduceSub] at *)
   rw [zme, decide_eq_true (show 32 < s.length by omega)]; simp
 · (subst hL; subst hQ; simp only [L2, L3, std] at *; try simp only [syS, reduceCtorEq, Int.reduceToNat, Int.reduceAdd, Int.reduceSub] at *)
   have : s.length ≠ 0 := fun h => h1 (List.eq_nil_of_length_eq_zero h)
   omega
 · (subst hL; subst hQ; simp only [L2, L3, std] at *; try simp only [syS, reduceCtorEq, Int.reduceToNat, Int.reduceAdd, Int.reduceSub] at *)
   rw [zme, show yng (za4 s 0) = false from h]; simp
 · (cbv; try simp only [syT, true_and, and_true])
   (subst hL; subst hQ; simp only [L2, L3, std] at *; try simp only [syS, reduceCtorEq, Int.reduceToNat, Int.reduceAdd, Int.reduceSub] at *)
   exact zta _ _
 · have hi2 : zjq ybm s i := by
     have h := hi
     rw [hL] at h
     exact h
   clear hi
   obtain ⟨hi3, hi4⟩ := hi2
   have g1 : ¬ s = [] := by
     rw [hL] at h1
     have h : seq s [] = false := h1
     simpa [seq] using h
   have g2 : ¬ 32 < s.length := by
     rw [hL] at h2
     have h : ilt 32 (s.length : Int) = false := h2
     rw [ycf] at h
     omega
   have g3 : yng (za4 s 0) = true := by
     rw [hL] at h3
     have h : (!yng (za4 s 0)) = false := h3
     simpa using h
   have g4 : zme s = yf3 ybm s := by
     rw [zme, decide_eq_false g1, decide_eq_false g2, g3]; rfl
   clear h1 h2 h3
   (cbv; try simp only [syT, true_and, and_true])
   have hcb : L (L ze2 s) (L zan i) = za4 s i := by subst hL; rfl
   rw [hcb]
   clear hcb
   have step : i < s.length -> ybm (za4 s i) = true -> zjq ybm s (i + 1) /\ toC s (i + 1) + 1 <= toC s i := fun h1 h2 => ⟨zj5 ⟨hi3, hi4⟩ h1 h2, by show s.length - (i + 1) + 1 <= s.length - i; omega⟩
   have bad : i < s.length -> ybm (za4 s i) = false -> zme s = false := fun h1 h2 => by rw [g4]; exact zu1 h1 h2
   generalize za4 s i = c at step bad |-
   have hlt2 : L (L ilt (L zan i)) (L slen s) = true -> i < s.length := by
     intro h
     rw [hL] at h
     have h : ilt (i : Int) (s.length : Int) = true := h
     rw [ynx] at h
     omega
   refine ⟨fun hlt => ⟨?_, fun h1 => ⟨?_, fun h2 => ⟨?_, fun h3 => ?_, fun h3 => ⟨i + 1, ?_⟩⟩, fun h2 => ⟨i + 1, ?_⟩⟩, fun h1 => ⟨i + 1, ?_⟩⟩, fun hge => ?_⟩
   · (subst hL; subst hQ; simp only [L2, L3, std] at *; try simp only [syS, reduceCtorEq, Int.reduceToNat, Int.reduceAdd, Int.reduceSub] at *)
     omega
   · (subst hL; subst hQ; simp only [L2, L3, std] at *; try simp only [syS, reduceCtorEq, Int.reduceToNat, Int.reduceAdd, Int.reduceSub] at *)
     omega
   · (subst hL; subst hQ; simp only [L2, L3, std] at *; try simp only [syS, reduceCtorEq, Int.reduceToNat, Int.reduceAdd, Int.reduceSub] at *)
     omega
   · have hli := hlt2 hlt
     (subst hL; subst hQ; simp only [L2, L3, std] at *; try simp only [syS, reduceCtorEq, Int.reduceToNat, Int.reduceAdd, Int.reduceSub] at *)
     rw [bad hli (by simp [ybm, h1, h2, h3])]
   · have hli := hlt2 hlt
     (cbv; try simp only [syT, true_and, and_true])
     (subst hL; subst hQ; simp only [L2, L3, std] at *; try simp only [syS, reduceCtorEq, Int.reduceToNat, Int.reduceAdd, Int.reduceSub] at *)
     obtain ⟨k1, k2⟩ := step hli (by simp [ybm, h3])
     exact ⟨by omega, k1, k2⟩
   · have hli := hlt2 hlt
     (cbv; try simp only [syT, true_and, and_true])
     (subst hL; subst hQ; simp only [L2, L3, std] at *; try simp only [syS, reduceCtorEq, Int.reduceToNat, Int.reduceAdd, Int.reduceSub] at *)
     obtain ⟨k1, k2⟩ := step hli (by simp [ybm, h2])
     exact ⟨by omega, k1, k2⟩
   · have hli := hlt2 hlt
     (cbv; try simp only [syT, true_and, and_true])
     (subst hL; subst hQ; simp only [L2, L3, std] at *; try simp only [syS, reduceCtorEq, Int.reduceToNat, Int.reduceAdd, Int.reduceSub] at *)
     obtain ⟨k1, k2⟩ := step hli (by simp [ybm, h1])
     exact ⟨by omega, k1, k2⟩
   · (subst hL; subst hQ; simp only [L2, L3, std] at *; try simp only [syS, reduceCtorEq, Int.reduceToNat, Int.reduceAdd, Int.reduceSub] at *)
     rw [g4, zlr ⟨hi3, hi4⟩ (by omega)]
def yf1 (c : Int) : Bool := yva c || decide (c = 45)
def yc3 (s : List UInt8) : Int := za4 s (s.length - 1)
def zft (s : List UInt8) : Bool := !decide (s = []) && (!decide (32 < s.length) && (!decide (za4 s 0 = 45) && (!decide (yc3 s = 45) && yf3 yf1 s)))
def yb4 (L : zaa) : zb4 := (144, fun xs => match xs with
 | [.str s] => some (True, .bool (L zft s))
 | _ => none)
def yx1 (L : zaa) (s : List UInt8) : Nat -> St -> Option Ann := fun id st => match id with
 | 0 => some ⟨Nat, fun i => [(26, .int .i64 (L zan i))], fun i => [], [0, 25], [], fun i => L (L2 L zjq yf1 s) i, fun i => L2 L toC s i⟩
 | _ => none
theorem yb5 : zao Tryz.prog (yb4 std) := by
 intro xs p r h hp
 dsimp only [yb4] at h |-
 split at h <;> cases h
 try simp only [L2, L3, std] at hp |-
 rename_i s
 refine za8 (T := tt) (S := fun L => zad [zoc L]) (lo := fun L => yx1 L s) (lb := noA) 5 (fn := Tryz.f144) (xs := fun L => [.str s]) rfl rfl (by kernel_rfl) (by kernel_rfl) rfl zab (za1 ⟨zmw, trivial⟩) (by kernel_rfl) ?_
 intro L P' Q' hL hP hQ
 (cbv; try simp only [syT, true_and, and_true])
 refine ⟨fun h => ?_, fun h1 => ⟨fun h => ?_, fun h2 => ⟨?_, fun h => ?_, fun h3 => ⟨?_, fun h => ?_, fun h4 => ⟨⟨0, ?_⟩, fun i hi => ?_⟩⟩⟩⟩⟩
 · (subst hL; subst hQ; simp only [L2, L3, std] at *; try simp only [syS, reduceCtorEq, Int.reduceToNat, Int.reduceAdd, Int.reduceSub] at *)
   rw [zft, decide_eq_true h]; rfl
 · (subst hL; subst hQ; simp only [L2, L3, std] at *; try simp only [syS, reduceCtorEq, Int.reduceToNat, Int.reduceAdd, Int.reduceSub] at *)
   rw [zft, decide_eq_true (show 32 < s.length by omega)]; simp
 · (subst hL; subst hQ; simp only [L2, L3, std] at *; try simp only [syS, reduceCtorEq, Int.reduceToNat, Int.reduceAdd, Int.reduceSub] at *)
   have : s.length ≠ 0 := fun h => h1 (List.eq_nil_of_length_eq_zero h)
   omega
 · (subst hL; subst hQ; simp only [L2, L3, std] at *; try simp only [syS, reduceCtorEq, Int.reduceToNat, Int.reduceAdd, Int.reduceSub] at *)
   rw [zft, decide_eq_true (show za4 s 0 = 45 from h)]; simp
 · (subst hL; subst hQ; simp only [L2, L3, std] at *; try simp only [syS, reduceCtorEq, Int.reduceToNat, Int.reduceAdd, Int.reduceSub] at *)
   have : s.length ≠ 0 := fun h => h1 (List.eq_nil_of_length_eq_zero h)
   omega
 · have hl : yc3 s = 45 := by
     rw [hL] at h h2
     have h2 : ilt 32 (s.length : Int) = false := h2
     rw [ycf] at h2
     have h : ieq (za4 s (Int.toNat (zrv .i64 (s.length : Int) 1))) 45 = true := h
     rw [ytd] at h
     rw [<- h, yc3]
     congr 1
     simp only [zrv, znw]
     omega
   subst hQ
   refine (zg6 _ _).mpr ?_
   rw [zft, decide_eq_true hl]; simp
 · (cbv; try simp only [syT, true_and, and_true])
   (subst hL; subst hQ; simp only [L2, L3, std] at *; try simp only [syS, reduceCtorEq, Int.reduceToNat, Int.reduceAdd, Int.reduceSub] at *)
   exact zta _ _
 · have hi2 : zjq yf1 s i := by
     have h := hi
     rw [hL] at h
     exact h
   clear hi
   obtain ⟨hi3, hi4⟩ := hi2
   have g1 : ¬ s = [] := by
     rw [hL] at h1
     have h : seq s [] = false := h1
     simpa [seq] using h
   have g2 : ¬ 32 < s.length := by
     rw [hL] at h2
     have h : ilt 32 (s.length : Int) = false := h2
     rw [ycf] at h
     omega
   have g3 : ¬ za4 s 0 = 45 := by
     rw [hL] at h3
     have h : ieq (za4 s 0) 45 = false := h3
     rw [ynz] at h
     exact h
   have g5 : ¬ yc3 s = 45 := by
     rw [hL] at h4
     have h : ieq (za4 s (Int.toNat (zrv .i64 (s.length : Int) 1))) 45 = false := h4
     rw [ynz] at h
     intro h5
     apply h
     rw [<- h5, yc3]
     congr 1
     simp only [zrv, znw]
     omega
   have g4 : zft s = yf3 yf1 s := by
     rw [zft, decide_eq_false g1, decide_eq_false g2, decide_eq_false g3, decide_eq_false g5]; rfl
   clear h1 h2 h3 h4
   (cbv; try simp only [syT, true_and, and_true])
   have hcb : L (L ze2 s) (L zan i) = za4 s i := by subst hL; rfl
   rw [hcb]
   clear hcb
   have step : i < s.length -> yf1 (za4 s i) = true -> zjq yf1 s (i + 1) /\ toC s (i + 1) + 1 <= toC s i := fun h1 h2 => ⟨zj5 ⟨hi3, hi4⟩ h1 h2, by show s.length - (i + 1) + 1 <= s.length - i; omega⟩
   have bad : i < s.length -> yf1 (za4 s i) = false -> zft s = false := fun h1 h2 => by rw [g4]; exact zu1 h1 h2
   generalize za4 s i = c at step bad |-
   have hlt2 : L (L ilt (L zan i)) (L slen s) = true -> i < s.length := by
     intro h
     rw [hL] at h
     have h : ilt (i : Int) (s.length : Int) = true := h
     rw [ynx] at h
     omega
   refine ⟨fun hlt => ⟨?_, fun h1 => ⟨?_, fun h2 => ?_, fun h2 => ⟨i + 1, ?_⟩⟩, fun h1 => ⟨i + 1, ?_⟩⟩, fun hge => ?_⟩
   · (subst hL; subst hQ; simp only [L2, L3, std] at *; try simp only [syS, reduceCtorEq, Int.reduceToNat, Int.reduceAdd, Int.reduceSub] at *)
     omega
   · (subst hL; subst hQ; simp only [L2, L3, std] at *; try simp only [syS, reduceCtorEq, Int.reduceToNat, Int.reduceAdd, Int.reduceSub] at *)
     omega
   · have hli := hlt2 hlt
     (subst hL; subst hQ; simp only [L2, L3, std] at *; try simp only [syS, reduceCtorEq, Int.reduceToNat, Int.reduceAdd, Int.reduceSub] at *)
     rw [bad hli (by simp [yf1, h1, h2])]
   · have hli := hlt2 hlt
     (cbv; try simp only [syT, true_and, and_true])
     (subst hL; subst hQ; simp only [L2, L3, std] at *; try simp only [syS, reduceCtorEq, Int.reduceToNat, Int.reduceAdd, Int.reduceSub] at *)
     obtain ⟨k1, k2⟩ := step hli (by simp [yf1, h2])
     exact ⟨by omega, k1, k2⟩
   · have hli := hlt2 hlt
     (cbv; try simp only [syT, true_and, and_true])
     (subst hL; subst hQ; simp only [L2, L3, std] at *; try simp only [syS, reduceCtorEq, Int.reduceToNat, Int.reduceAdd, Int.reduceSub] at *)
     obtain ⟨k1, k2⟩ := step hli (by simp [yf1, h1])
     exact ⟨by omega, k1, k2⟩
   · (subst hL; subst hQ; simp only [L2, L3, std] at *; try simp only [syS, reduceCtorEq, Int.reduceToNat, Int.reduceAdd, Int.reduceSub] at *)
     rw [g4, zlr ⟨hi3, hi4⟩ (by omega)]
def yqp (c : Int) : Int := if 65 <= c /\ c <= 90 then c + 32 else c
def lowB (b : UInt8) : UInt8 := UInt8.ofNat (yqp (b.toNat : Int)).toNat
def ziz (s : List UInt8) : List UInt8 := s.map lowB
def yf0 (s : List UInt8) (i k : Nat) : Int := if k < i then yqp (za4 s k) else za4 s k
theorem zld {s : List UInt8} {i k : Nat} : yf0 s (i + 1) k = if k = i then yqp (za4 s i) else yf0 s i k := by
 unfold yf0
 by_cases e : k = i
 · rw [if_pos e, if_pos (by omega), e]
 · rw [if_neg e]
   by_cases h : k < i
   · rw [if_pos (by omega), if_pos h]
   · rw [if_neg (by omega), if_neg h]
theorem yhc {s : List UInt8} {i : Nat} (h : s.length <= i) : zb8 s.length (fun k => (AV.int .u8 (yf0 s i (0 + k))).toI) = ziz s := by
 apply List.ext_getElem
 · simp [zb8, ziz]
 · intro k h1 h2
   have hk : k < s.length := by simpa [ziz] using h2
   simp only [zb8, ziz, List.getElem_map, List.getElem_range, AV.toI, Nat.zero_add]
   rw [yf0, if_pos (by omega), zgo hk]
   rfl
def leN8 (s : List UInt8) (i : Nat) : Prop := i <= s.length
def zos (L : zaa) : zb4 := (95, fun xs => match xs with
 | [.str s] => some (L2 L upto 1000000000 s, .str (L ziz s))
 | _ => none)
def ysv (L : zaa) (s : List UInt8) : Nat -> St -> Option Ann := fun id st => match id with
 | 0 => some ⟨Nat, fun i => [(10, .int .i64 (L zan i)), (3, .sl 900 1 0 (L lenN s)), (8, .sl 900 1 0 (L lenN s))], fun i => [(900, .row 5 1 (L lenN s) (fun k _ => .int .u8 (L3 L yf0 s i k)))], [9], [], fun i => L2 L leN8 s i, fun i => L2 L toC s i⟩
 | _ => none
theorem zn2 : zao Tryz.prog (zos std) := by
 intro xs p r h hp
 dsimp only [zos] at h |-
 split at h <;> cases h
 try simp only [L2, L3, std] at hp |-
 rename_i s
 have hz : s.length <= 1000000000 := hp
 refine za8 (T := tt) (S := fun L => noS L) (lo := fun L => ysv L s) (lb := noA) 5 (fn := Tryz.f95) (xs := fun L => [.str s]) rfl rfl (by kernel_rfl) (by kernel_rfl) rfl zab (zbh _) (by kernel_rfl) ?_
 intro L P' Q' hL hP hQ
 (cbv; try simp only [syT, true_and, and_true])
 refine ⟨⟨0, ?_⟩, fun i hi => ?_⟩
 · (cbv; try simp only [syT, true_and, and_true])
   (subst hL; subst hQ; simp only [L2, L3, std] at *; try simp only [syS, reduceCtorEq, Int.reduceToNat, Int.reduceAdd, Int.reduceSub] at *)
   exact ⟨fun i j hi hj => by rw [yf0, if_neg (by omega)], Nat.zero_le _⟩
 · have hi2 : i <= s.length := by
     have h := hi
     rw [hL] at h
     exact h
   clear hi
   (cbv; try simp only [syT, true_and, and_true])
   have hc : L (L (L yf0 s) i) (L (L Nat.add 0) (L Int.toNat (L zan i))) = za4 s i := by
     subst hL
     show yf0 s i (0 + i) = _
     rw [Nat.zero_add, yf0, if_neg (by omega)]
   rw [hc]
   refine ⟨fun hlt => ⟨?_, fun h1 => ⟨fun h2 => ⟨?_, ?_, i + 1, ?_⟩, fun h2 => ⟨i + 1, ?_⟩⟩, fun h1 => ⟨i + 1, ?_⟩⟩, fun hge => ?_⟩
   · (subst hL; subst hQ; simp only [L2, L3, std] at *; try simp only [syS, reduceCtorEq, Int.reduceToNat, Int.reduceAdd, Int.reduceSub] at *)
     omega
   · (subst hL; subst hQ; simp only [L2, L3, std] at *; try simp only [syS, reduceCtorEq, Int.reduceToNat, Int.reduceAdd, Int.reduceSub] at *)
     omega
   · (subst hL; subst hQ; simp only [L2, L3, std] at *; try simp only [syS, reduceCtorEq, Int.reduceToNat, Int.reduceAdd, Int.reduceSub] at *)
     omega
   · (cbv; try simp only [syT, true_and, and_true])
     try simp only [hc]
     (subst hL; subst hQ; simp only [L2, L3, std] at *; try simp only [syS, reduceCtorEq, Int.reduceToNat, Int.reduceAdd, Int.reduceSub] at *)
     refine ⟨fun k j hk hj => ?_, by omega, by show i + 1 <= s.length; omega, by show s.length - (i + 1) + 1 <= s.length - i; omega⟩
     rw [yx3 _ _ _ _ _ _ hj, zld]
     by_cases e : k = i
     · rw [if_pos e, if_pos e, yqp, if_pos ⟨h1, h2⟩]
       congr 1
       omega
     · rw [if_neg e, if_neg e]
   · (cbv; try simp only [syT, true_and, and_true])
     (subst hL; subst hQ; simp only [L2, L3, std] at *; try simp only [syS, reduceCtorEq, Int.reduceToNat, Int.reduceAdd, Int.reduceSub] at *)
     refine ⟨fun k j hk hj => ?_, by omega, by show i + 1 <= s.length; omega, by show s.length - (i + 1) + 1 <= s.length - i; omega⟩
     rw [zld]
     by_cases e : k = i
     · rw [if_pos e, yqp, if_neg (by omega), e, hc]
     · rw [if_neg e]
   · (cbv; try simp only [syT, true_and, and_true])
     (subst hL; subst hQ; simp only [L2, L3, std] at *; try simp only [syS, reduceCtorEq, Int.reduceToNat, Int.reduceAdd, Int.reduceSub] at *)
     refine ⟨fun k j hk hj => ?_, by omega, by show i + 1 <= s.length; omega, by show s.length - (i + 1) + 1 <= s.length - i; omega⟩
     rw [zld]
     by_cases e : k = i
     · rw [if_pos e, yqp, if_neg (by omega), e, hc]
     · rw [if_neg e]
   · subst hQ; subst hL
     have hge : ilt (i : Int) (s.length : Int) = false := hge
     rw [ycf] at hge
     refine ⟨⟨by show 0 + s.length <= s.length; omega, fun k hk => ⟨_, rfl⟩⟩, ?_⟩
     rw [zi0]
     exact yhc (by omega)
def zj1 (l : List (List UInt8)) : List (List UInt8) := if zdd l 0 = [42] /\ 1 < l.length then l.drop 1 else l
def zqy (s : List UInt8) : Int := if s = [] then 3 else if 64 < s.length then 5 else if (zj1 (zbg s [46])).all zft then 0 else 4
def yj3 (l : List (List UInt8)) (i : Nat) : Prop := i <= l.length /\ ∀ k, k < i -> zft (zdd l k) = true
def toP3 (l : List (List UInt8)) (i : Nat) : Nat := l.length - i
theorem zro {l : List (List UInt8)} {i : Nat} (h : yj3 l i) (hi : l.length <= i) : l.all zft = true := by
 rw [List.all_eq_true]
 intro b hb
 obtain ⟨k, hk, rfl⟩ := List.getElem_of_mem hb
 have := h.2 k (by omega)
 rwa [zdd, List.getD_eq_getElem?_getD, List.getElem?_eq_getElem hk] at this
theorem zwc {l : List (List UInt8)} {i : Nat} (hi : i < l.length) (h : zft (zdd l i) = false) : l.all zft = false := by
 rw [List.all_eq_false]
 refine ⟨l[i], List.getElem_mem hi, ?_⟩
 rw [zdd, List.getD_eq_getElem?_getD, List.getElem?_eq_getElem hi] at h
 have h : zft l[i] = false := h
 rw [h]; decide
theorem znp {l : List (List UInt8)} {i : Nat} (h : yj3 l i) (hi : i < l.length) (hf : zft (zdd l i) = true) : yj3 l (i + 1) :=
 ⟨hi, fun k hk => by
   rcases Nat.lt_succ_iff_lt_or_eq.1 hk with h1 | h1
   · exact h.2 k h1
   · rw [h1]; exact hf⟩
theorem yo8 {l : List (List UInt8)} (h1 : zdd l 0 = [42]) (h2 : 1 < l.length) : (zj1 l).length = l.length - 1 /\ ∀ i, zdd (zj1 l) i = zdd l (Nat.add 1 i) := by
 rw [zj1, if_pos ⟨h1, h2⟩]
 refine ⟨by simp, fun i => ?_⟩
 rw [zdd, zdd, List.getD_eq_getElem?_getD, List.getD_eq_getElem?_getD, List.getElem?_drop]; rfl
theorem yco {l : List (List UInt8)} (h : ¬ zdd l 0 = [42] \/ l.length <= 1) : zj1 l = l := by
 refine if_neg (fun q => ?_)
 rcases h with h | h
 · exact h q.1
 · have := q.2
   omega
theorem ycn {s : List UInt8} (h1 : ¬ s = []) (h2 : s.length <= 64) (h : (zj1 (zbg s [46])).all zft = true) : zqy s = 0 := by rw [zqy, if_neg h1, if_neg (by omega), if_pos h]
theorem ycm {s : List UInt8} (h1 : ¬ s = []) (h2 : s.length <= 64) (h : (zj1 (zbg s [46])).all zft = false) : zqy s = 4 := by rw [zqy, if_neg h1, if_neg (by omega), if_neg (by rw [h]; decide)]
theorem zzv (s : List UInt8) : 0 < (zbg s [46]).length /\ (zbg s [46]).length <= s.length + 1 := by
 have := ylg s 46
 have e : (spC s 46).length = (zbg s [46]).length := rfl
 refine ⟨?_, by omega⟩
 rw [zbg, zb5]; exact Nat.succ_pos _
def yck (L : zaa) : zb4 := (96, fun xs => match xs with
 | [.str s] => some (L2 L upto 1000000000 s, .int .i64 (L zqy s))
 | _ => none)
def yxu (L : zaa) (s : List UInt8) : Nat -> St -> Option Ann := fun id st => match id with
 | 0 => some ⟨Nat, fun i => [(26, .int .i64 (L zan i))], fun i => [], [24, 25], [], fun i => L2 L yj3 (L zj1 (L2 L zbg s [46])) i, fun i => L2 L toP3 (L zj1 (L2 L zbg s [46])) i⟩
 | _ => none
theorem ycl : zao Tryz.prog (yck std) := by
 intro xs p r h hp
 dsimp only [yck] at h |-
 split at h <;> cases h
 try simp only [L2, L3, std] at hp |-
 rename_i s
 refine za8 (T := tt) (S := fun L => zad [yfh L, yb4 L]) (lo := fun L => yxu L s) (lb := noA) 5 (fn := Tryz.f96) (xs := fun L => [.str s]) rfl rfl (by kernel_rfl) (by kernel_rfl) rfl zab (za1 ⟨zuj, yb5, trivial⟩) (by kernel_rfl) ?_
 intro L P' Q' hL hP hQ
 (cbv; try simp only [syT, true_and, and_true])
 repeat' first | refine And.intro ?_ ?_ | refine fun (hh : (_ : Bool) = _) => ?_
 all_goals try (refine ⟨0, ?_⟩; (cbv; try simp only [syT, true_and, and_true]))
 all_goals try
   (intro i hi
    cbv at hi
    (cbv; try simp only [syT, true_and, and_true])
    repeat' first | refine And.intro ?_ ?_ | refine fun (hh : (_ : Bool) = _) => ?_
    all_goals try (refine ⟨i + 1, ?_⟩; (cbv; try simp only [syT, true_and, and_true])))
 all_goals (subst hL; subst hQ; simp only [L2, L3, std] at *; try simp only [syS, reduceCtorEq, Int.reduceToNat, Int.reduceAdd, Int.reduceSub] at *)
 all_goals have hls : zhv (zbg s [46]) = (zbg s [46]).length := rfl
 all_goals have hsp := zzv s
 all_goals try (have g1 : ¬ s = [] := by assumption)
 all_goals try (have g2 : (s.length : Int) <= 64 := by assumption)
 all_goals try (have g2 : s.length <= 64 := by omega)
 all_goals try
   (have g3 : zdd (zbg s [46]) 0 = [42] := by assumption
    have g4 : 1 < ((zhv (zbg s [46]) : Nat) : Int) := by assumption
    have g5 : 1 < (zbg s [46]).length := by omega
    obtain ⟨A1, A2⟩ := yo8 g3 g5)
 all_goals try
   (have g3 : ¬ zdd (zbg s [46]) 0 = [42] := by assumption
    have B0 := yco (.inl g3))
 all_goals try
   (have g5 : ((zhv (zbg s [46]) : Nat) : Int) <= 1 := by assumption
    have g6 : (zbg s [46]).length <= 1 := by omega
    have B0 := yco (.inr g6))
 all_goals first
   | exact (if_pos (by assumption)).symm
   | exact (by rw [zqy, if_neg g1, if_pos (by omega)] : zqy s = 5).symm
   | rfl
   | exact ⟨by omega, by omega⟩
   | exact ⟨Nat.zero_le _, fun k hk => by omega⟩
   | (show s.length <= 1000000000; omega)
   | (refine (ycm g1 g2 (zwc (i := i) (by omega) ?_)).symm
      rw [A2]; assumption)
   | (refine (ycm g1 g2 ?_).symm
      rw [B0]
      exact zwc (i := i) (by omega) (by assumption))
   | (refine (ycn g1 g2 (zro hi (by omega))).symm)
   | (refine (ycn g1 g2 (zro hi (by rw [B0]; omega))).symm)
   | (refine ⟨by omega, znp hi (by omega) (by rw [A2]; assumption), ?_⟩
      show (zj1 (zbg s [46])).length - (i + 1) + 1 <= (zj1 (zbg s [46])).length - i
      omega)
   | (refine ⟨by omega, znp hi (by rw [B0]; omega) (by rw [B0]; assumption), ?_⟩
      show (zj1 (zbg s [46])).length - (i + 1) + 1 <= (zj1 (zbg s [46])).length - i
      rw [B0]
      omega)
end Sy
end Go.Proofs.YthppjaoicibeiaaGreatDoor
namespace Go.Proofs.YthppjaoicibeiaaGreatDoor
namespace Sy
open Go Go.RowKit
end Sy
end Go.Proofs.YthppjaoicibeiaaGreatDoor
namespace Go.Proofs.YthppjaoicibeiaaGreatDoor
namespace Sy
open Go Go.RowKit
set_option maxRecDepth 100000
set_option linter.unusedSimpArgs false
set_option linter.unusedVariables false
def zxg (a b : List UInt8) : Bool := a.take b.length == b
def zqc (a b : List UInt8) : Prop := a.length <= 1000000000 /\ b.length <= 1000000000
def zus (L : zaa) : zb4 := (183, fun xs => match xs with | [.str a, .str b] => some (L2 L zqc a b, .bool (L2 L zxg a b)) | _ => none)
def ygj (L : zaa) : zb4 := (145, fun xs => match xs with | [.str a, .str b] => some (L2 L zqc a b, .bool (L2 L zxg a b)) | _ => none)
theorem zqd : zao Tryz.prog (zus std) := by
 intro xs p r h hp
 dsimp only [zus] at h |-
 split at h <;> cases h
 try simp only [L2, L3, std] at hp |-
 rename_i a b
 refine za6 (T := tt) (S := noS) (lo := noA) (lb := noA) 5 (fn := Tryz.f183) rfl rfl (by kernel_rfl) (by kernel_rfl) rfl zab (zbh _) (by kernel_rfl) ?_
 (intro L P1 Q1 hL hP hQ; cbv; subst hL; simp only [L2, L3, std, syT]; subst hQ)
 (simp only [syS, reduceCtorEq, Int.reduceToNat, Int.reduceAdd, Int.reduceSub])
 exact ⟨fun h => ⟨by omega, rfl⟩, fun h => by
   have : ¬ a.take b.length = b := fun e => by have := congrArg List.length e; simp at this; omega
   simp [zxg, this]⟩
theorem zur : zao Tryz.prog (ygj std) := by
 intro xs p r h hp
 dsimp only [ygj] at h |-
 split at h <;> cases h
 try simp only [L2, L3, std] at hp |-
 rename_i a b
 refine za6 (T := tt) (S := fun L => zad [zus L]) (lo := noA) (lb := noA) 5 (fn := Tryz.f145) rfl rfl (by kernel_rfl) (by kernel_rfl) rfl zab (za1 ⟨zqd, trivial⟩) (by kernel_rfl) ?_
 (intro L P1 Q1 hL hP hQ; cbv; subst hL; simp only [L2, L3, std, syT]; subst hQ)
 (simp only [syS, reduceCtorEq, Int.reduceToNat, Int.reduceAdd, Int.reduceSub])
 exact hp
def cpT (a b : List UInt8) : List UInt8 := if zxg a b = true then a.drop b.length else a
def yrk (a b : List UInt8) : Bool := decide (b.length <= a.length) && decide (a.drop (a.length - b.length) = b)
def yp9 (L : zaa) : zb4 := (197, fun xs => match xs with | [.str a, .str b] => some (L2 L zqc a b, .tup [.str (L2 L cpT a b), .bool (L2 L zxg a b)]) | _ => none)
def cp_s (L : zaa) : zb4 := (174, fun xs => match xs with | [.str a, .str b] => some (L2 L zqc a b, .tup [.str (L2 L cpT a b), .bool (L2 L zxg a b)]) | _ => none)
def yln (L : zaa) : zb4 := (198, fun xs => match xs with | [.str a, .str b] => some (L2 L zqc a b, .bool (L2 L yrk a b)) | _ => none)
def ywn (L : zaa) : zb4 := (175, fun xs => match xs with | [.str a, .str b] => some (L2 L zqc a b, .bool (L2 L yrk a b)) | _ => none)
theorem ymo {a b : List UInt8} (h : zxg a b = true) : b.length <= a.length := by
 have h : a.take b.length = b := by simpa [zxg] using h
 have := congrArg List.length h
 simp at this
 omega
theorem yil : zao Tryz.prog (yp9 std) := by
 intro xs p r h hp
 dsimp only [yp9] at h |-
 split at h <;> cases h
 try simp only [L2, L3, std] at hp |-
 rename_i a b
 obtain ⟨p1, p2⟩ : zqc a b := hp
 refine za6 (T := tt) (S := fun L => zad [zus L]) (lo := noA) (lb := noA) 5 (fn := Tryz.f197) rfl rfl (by kernel_rfl) (by kernel_rfl) rfl zab (za1 ⟨zqd, trivial⟩) (by kernel_rfl) ?_
 (intro L P1 Q1 hL hP hQ; cbv; subst hL; simp only [L2, L3, std, syT]; subst hQ)
 (simp only [syS, reduceCtorEq, Int.reduceToNat, Int.reduceAdd, Int.reduceSub])
 refine ⟨⟨p1, p2⟩, fun h => ⟨(if_neg (by rw [h]; decide)).symm, h.symm⟩, fun h => ⟨⟨by omega, ?_⟩, (if_pos h).symm, h.symm⟩⟩
 have := ymo h
 omega
theorem yp8 : zao Tryz.prog (cp_s std) := by
 intro xs p r h hp
 dsimp only [cp_s] at h |-
 split at h <;> cases h
 try simp only [L2, L3, std] at hp |-
 rename_i a b
 refine za6 (T := tt) (S := fun L => zad [yp9 L]) (lo := noA) (lb := noA) 5 (fn := Tryz.f174) rfl rfl (by kernel_rfl) (by kernel_rfl) rfl zab (za1 ⟨yil, trivial⟩) (by kernel_rfl) ?_
 (intro L P1 Q1 hL hP hQ; cbv; subst hL; simp only [L2, L3, std, syT]; subst hQ)
 (simp only [syS, reduceCtorEq, Int.reduceToNat, Int.reduceAdd, Int.reduceSub])
 exact hp
theorem yfj : zao Tryz.prog (yln std) := by
 intro xs p r h hp
 dsimp only [yln] at h |-
 split at h <;> cases h
 try simp only [L2, L3, std] at hp |-
 rename_i a b
 obtain ⟨p1, p2⟩ : zqc a b := hp
 refine za6 (T := tt) (S := noS) (lo := noA) (lb := noA) 5 (fn := Tryz.f198) rfl rfl (by kernel_rfl) (by kernel_rfl) rfl zab (zbh _) (by kernel_rfl) ?_
 (intro L P1 Q1 hL hP hQ; cbv; subst hL; simp only [L2, L3, std, syT]; subst hQ)
 (simp only [syS, reduceCtorEq, Int.reduceToNat, Int.reduceAdd, Int.reduceSub])
 refine ⟨fun h => ?_, fun h => ?_⟩
 · have e : ((a.length : Int) - b.length + 9223372036854775808) % 18446744073709551616 - 9223372036854775808 = ((a.length - b.length : Nat) : Int) := by omega
   rw [e, Int.toNat_natCast]
   refine ⟨⟨by omega, by omega⟩, ?_⟩
   unfold yrk seq
   rw [decide_eq_true (show b.length <= a.length by omega)]
   simp [Bool.beq_eq_decide_eq]
 · unfold yrk
   rw [decide_eq_false (show ¬ b.length <= a.length by omega)]; rfl
theorem ylm : zao Tryz.prog (ywn std) := by
 intro xs p r h hp
 dsimp only [ywn] at h |-
 split at h <;> cases h
 try simp only [L2, L3, std] at hp |-
 rename_i a b
 refine za6 (T := tt) (S := fun L => zad [yln L]) (lo := noA) (lb := noA) 5 (fn := Tryz.f175) rfl rfl (by kernel_rfl) (by kernel_rfl) rfl zab (za1 ⟨yfj, trivial⟩) (by kernel_rfl) ?_
 (intro L P1 Q1 hL hP hQ; cbv; subst hL; simp only [L2, L3, std, syT]; subst hQ)
 (simp only [syS, reduceCtorEq, Int.reduceToNat, Int.reduceAdd, Int.reduceSub])
 exact hp
def ykj (a b : List UInt8) : Bool := decide (ziz a = ziz b) || (zxg (ziz a) [42, 46] && (!decide (cpT (ziz a) [42, 46] = []) && (decide ((cpT (ziz a) [42, 46]).length + 1 < (ziz b).length) && yrk (ziz b) (46 :: cpT (ziz a) [42, 46]))))
def yuc (a b : List UInt8) : Prop := a.length <= 1000000 /\ b.length <= 1000000
def ypa (L : zaa) : zb4 := (136, fun xs => match xs with | [.str a, .str b] => some (L2 L yuc a b, .bool (L2 L ykj a b)) | _ => none)
theorem yim : zao Tryz.prog (ypa std) := by
 intro xs p r h hp
 dsimp only [ypa] at h |-
 split at h <;> cases h
 try simp only [L2, L3, std] at hp |-
 rename_i a b
 obtain ⟨p1, p2⟩ : yuc a b := hp
 refine za6 (T := tt) (S := fun L => zad [zos L, cp_s L, ywn L]) (lo := noA) (lb := noA) 5 (fn := Tryz.f136) rfl rfl (by kernel_rfl) (by kernel_rfl) rfl zab (za1 ⟨zn2, yp8, ylm, trivial⟩) (by kernel_rfl) ?_
 (intro L P1 Q1 hL hP hQ; cbv; subst hL; simp only [L2, L3, std, syT]; subst hQ)
 (simp only [syS, reduceCtorEq, Int.reduceToNat, Int.reduceAdd, Int.reduceSub])
 have la : (ziz a).length = a.length := List.length_map _
 have lb : (ziz b).length = b.length := List.length_map _
 have lc : (cpT (ziz a) [42, 46]).length <= (ziz a).length := by
   unfold cpT
   split
   · rw [List.length_drop]; omega
   · omega
 have e : ((cpT (ziz a) [42, 46]).length : Int) + 1 = (((cpT (ziz a) [42, 46]).length + 1 : Nat) : Int) := by omega
 refine ⟨by show a.length <= _; omega, by show b.length <= _; omega, fun h => ?_, fun h => ⟨⟨by omega, by decide⟩, fun h2 => ⟨fun h3 => ⟨fun h4 => ⟨by simp; omega, ⟨by omega, by simp; omega⟩, ?_⟩, fun h4 => ?_⟩, fun h3 => ?_⟩, fun h2 => ?_⟩⟩
 · unfold ykj; rw [decide_eq_true h]; rfl
 · unfold ykj
   rw [decide_eq_false h, h2, decide_eq_false h3, decide_eq_true (by omega)]; rfl
 · unfold ykj
   rw [decide_eq_false h, h2, decide_eq_false h3, decide_eq_false (show ¬ (cpT (ziz a) [42, 46]).length + 1 < (ziz b).length by omega)]; rfl
 · unfold ykj
   rw [decide_eq_false h, h2, decide_eq_true h3]; rfl
 · unfold ykj
   rw [decide_eq_false h, h2]; rfl
theorem zyp : za9 Tryz.prog 86 [] (.bool true) := by
 refine za6 (T := tt) (S := fun L => zad [ypa L, zva L]) (lo := noA) (lb := noA) 5 (fn := Tryz.f86) rfl rfl (by kernel_rfl) (by kernel_rfl) rfl zab (za1 ⟨yim, zqk, trivial⟩) (by kernel_rfl) ?_
 (intro L P1 Q1 hL hP hQ; cbv; subst hL; simp only [L2, L3, std, syT]; subst hQ)
 (simp only [syS, reduceCtorEq, Int.reduceToNat, Int.reduceAdd, Int.reduceSub])
 have e1 : ykj [42, 46, 97, 46, 98] [120, 46, 121, 46, 97, 46, 98] = true := by decide +kernel
 have e2 : ykj [42, 46, 97, 46, 98] [97, 46, 98] = false := by decide +kernel
 have e3 : zme [119, 101, 98, 45, 49] = true := by decide +kernel
 rw [e1, e2, e3]
 exact ⟨⟨by decide, by decide⟩, fun _ => ⟨⟨by decide, by decide⟩, fun _ => rfl, by decide⟩, by decide⟩
def yvs (s t : List UInt8) : Bool := Lib.contains s t
def ypb (L : zaa) : zb4 := (146, fun xs => match xs with | [.str s, .str t] => some (L2 L upto 1000000000 s, .bool (L2 L yvs s t)) | _ => none)
theorem yq3 (b : Bool) : ∀ (h : Array Obj) (D : Nat -> Prop), R h D zam (.bool b) (.bool b) := fun _ _ => .bool _
theorem yio : zao Tryz.prog (ypb std) := by
 intro xs p r h hp
 dsimp only [ypb] at h |-
 split at h <;> cases h
 try simp only [L2, L3, std] at hp |-
 rename_i s t
 have hp : s.length <= 1000000000 := hp
 refine zga (fn := Tryz.f146) rfl rfl (by kernel_rfl) (ztz (zbu _) (zbu _)) (fun w hg => ?_)
 obtain ⟨m, hm⟩ := hg.2.2.2.2 0 (by kernel_rfl)
 refine (Tryz.strings_Contains ⟨s.toArray⟩ ⟨t.toArray⟩ m w (by show s.toArray.size < _; rw [List.size_toArray]; omega) hm).mono ?_
 rintro e w' ⟨rfl, rfl⟩
 exact ⟨_, rfl, Below.refl _ _, yq3 _⟩
def yvr (s : List UInt8) : Prop := ∃ j, j + 1 < s.length /\ za4 s j = 47 /\ za4 s (j + 1) = 47
theorem occ2 (s : List UInt8) (j : Nat) : Lib.occAt s [47, 47] j = true ↔ j + 1 < s.length /\ za4 s j = 47 /\ za4 s (j + 1) = 47 := by
 unfold Lib.occAt
 rw [List.isPrefixOf_iff_prefix]
 have hb : ∀ k, k < s.length -> (za4 s k = 47 ↔ s[k]? = some 47) := by
   intro k hk
   rw [zgo hk, List.getElem?_eq_getElem hk]
   constructor
   · intro h
     have : s[k] = 47 := UInt8.toNat_inj.1 (by show s[k].toNat = 47; omega)
     rw [this]
   · intro h
     rw [Option.some.inj h]; rfl
 constructor
 · rintro ⟨r, hr⟩
   have hl := congrArg List.length hr
   simp at hl
   have h0 : s[j]? = some 47 := by
     have := congrArg (fun l => l[0]?) hr
     simp [List.getElem?_drop] at this
     exact this.symm
   have h1 : s[j + 1]? = some 47 := by
     have := congrArg (fun l => l[1]?) hr
     simp [List.getElem?_drop] at this
     exact this.symm
   exact ⟨by omega, (hb j (by omega)).2 h0, (hb (j + 1) (by omega)).2 h1⟩
 · rintro ⟨h, h0, h1⟩
   have h0 := (hb j (by omega)).1 h0
   have h1 := (hb (j + 1) h).1 h1
   refine ⟨s.drop (j + 2), ?_⟩
   rw [List.drop_eq_getElem_cons (i := j) (by omega), List.drop_eq_getElem_cons (i := j + 1) h]
   rw [List.getElem?_eq_getElem (by omega)] at h0 h1
   rw [Option.some.inj h0, Option.some.inj h1]; rfl
theorem ydn {s : List UInt8} : yvs s [47, 47] = true ↔ yvr s := by
 unfold yvs Lib.contains
 rw [decide_eq_true_eq]
 rcases Lib.index_spec s [47, 47] with ⟨h1, h2⟩ | ⟨i, h1, h2, h3, h4⟩
 · rw [h1]
   refine ⟨fun h => absurd h (by decide), fun ⟨j, hj⟩ => ?_⟩
   have := h2 j (by omega)
   rw [(occ2 s j).2 hj] at this
   cases this
 · rw [h1]
   exact ⟨fun _ => ⟨i, (occ2 s i).1 h3⟩, fun _ => Int.natCast_nonneg _⟩
def yqi (c : Int) : Bool := decide (33 <= c) && decide (c <= 126)
open Classical in
noncomputable def ymr (s : List UInt8) : Int := if zxg s [47] = false \/ yvr s \/ yf3 yqi s = false then 4 else if 128 < s.length then 5 else 0
noncomputable def yb0 (L : zaa) : zb4 := (97, fun xs => match xs with | [.str s] => some (L2 L upto 1000000000 s, .int .i64 (L ymr s)) | _ => none)
def yx0 (L : zaa) (s : List UInt8) : Nat -> St -> Option Ann := fun id st => match id with
 | 0 => some ⟨Nat, fun i => [(13, .int .i64 (L zan i))], fun i => [], [0, 12], [], fun i => L (L2 L zjq yqi s) i, fun i => L2 L toC s i⟩
 | _ => none
theorem yb1 : zao Tryz.prog (yb0 std) := by
 intro xs p r h hp
 dsimp only [yb0] at h |-
 split at h <;> cases h
 try simp only [L2, L3, std] at hp |-
 rename_i s
 have hp : s.length <= 1000000000 := hp
 refine za8 (T := tt) (S := fun L => zad [ygj L, ypb L]) (lo := fun L => yx0 L s) (lb := noA) 5 (fn := Tryz.f97) (xs := fun L => [.str s]) rfl rfl (by kernel_rfl) (by kernel_rfl) rfl zab (za1 ⟨zur, yio, trivial⟩) (by kernel_rfl) ?_
 intro L P' Q' hL hP hQ
 (cbv; try simp only [syT, true_and, and_true])
 repeat' first | refine And.intro ?_ ?_ | refine fun (hh : (_ : Bool) = _) => ?_
 all_goals try (refine ⟨0, ?_⟩; (cbv; try simp only [syT, true_and, and_true]))
 all_goals try
   (intro i hi2
    have hi : zjq yqi s i := by
      have h := hi2
      rw [hL] at h
      exact h
    clear hi2
    (cbv; try simp only [syT, true_and, and_true])
    repeat' first | refine And.intro ?_ ?_ | refine fun (hh : (_ : Bool) = _) => ?_
    all_goals try (refine ⟨i + 1, ?_⟩; (cbv; try simp only [syT, true_and, and_true])))
 all_goals (subst hL; subst hQ; simp only [L2, L3, std] at *; try simp only [syS, reduceCtorEq, Int.reduceToNat, Int.reduceAdd, Int.reduceSub] at *)
 all_goals have hcd : yvs s [47, 47] = false -> ¬ yvr s := fun h h2 => by rw [ydn.2 h2] at h; cases h
 all_goals have hE : ∀ k, za4 s k = ((s.getD k 0).toNat : Int) := fun _ => rfl
 all_goals first
   | exact ⟨by omega, by decide⟩
   | exact (if_pos (.inl (by assumption))).symm
   | exact hp
   | exact (if_pos (.inr (.inl (ydn.1 (by assumption))))).symm
   | exact zta _ _
   | exact ⟨by omega, by omega⟩
   | (refine (if_pos (.inr (.inr (zu1 (i := i) (by omega) ?_)))).symm
      rw [yqi, hE]
      first
        | (rw [decide_eq_false (by omega)]; rfl)
        | (rw [Bool.and_eq_false_iff]; exact .inr (decide_eq_false (by omega))))
   | (refine ⟨by omega, zj5 hi (by omega) ?_, ?_⟩
      · rw [yqi, hE, Bool.and_eq_true, decide_eq_true_eq, decide_eq_true_eq]; exact ⟨by omega, by omega⟩
      · show s.length - (i + 1) + 1 <= s.length - i
        omega)
   | (have ha := zlr hi (by omega)
      have hn : ¬ (zxg s [47] = false \/ yvr s \/ yf3 yqi s = false) := by
        have q1 : zxg s [47] = true := by assumption
        have q2 := hcd (by assumption)
        rintro (q | q | q)
        · rw [q1] at q; cases q
        · exact q2 q
        · rw [ha] at q; cases q
      rw [ymr, if_neg hn]
      first
        | exact (if_pos (show 128 < s.length by omega)).symm
        | exact (if_neg (show ¬ 128 < s.length by omega)).symm)
end Sy
end Go.Proofs.YthppjaoicibeiaaGreatDoor
namespace Go.Proofs.YthppjaoicibeiaaGreatDoor
namespace Sy
open Go Go.RowKit
set_option maxRecDepth 100000
set_option linter.unusedSimpArgs false
set_option linter.unusedVariables false
end Sy
end Go.Proofs.YthppjaoicibeiaaGreatDoor
namespace Go.Proofs.YthppjaoicibeiaaGreatDoor
namespace Sy
open Go Go.RowKit
set_option linter.unusedVariables false
def DW (W : World) : Nat -> Prop := fun b => b < W.heap.size
structure zja {H : Type} (enc : TypeId × Value -> H) (P : Program) (W : World) (t : TypeId) (α : Type) (sz : Nat) (av : α -> Nat -> AV) (ok : α -> Prop) : Prop where
 size : P.cellsOf t = sz
 go : ∀ fuel cs x, DataW.trod enc P W 0 (fun _ => true) true fuel t cs = some x -> ∃ y : α, ok y /\ cs.length = sz /\ ∀ j, j < sz -> ∃ v, cs[j]? = some v /\ one v /\ R W.heap (DW W) zam (av y j) v
theorem sgl {h : Array Obj} {D : Nat -> Prop} {f : Nat -> AV} {v : Value} (h1 : one v) (h2 : R h D zam (f 0) v) : ∀ j, j < 1 -> ∃ u, [v][j]? = some u /\ one u /\ R h D zam (f j) u := by
 intro j hj
 obtain rfl : j = 0 := by omega
 exact ⟨v, rfl, h1, h2⟩
theorem yc0 {α : Type} (p : Nat -> α -> Prop) : ∀ n, (∀ i, i < n -> ∃ y, p i y) -> ∃ l : List α, l.length = n /\ ∀ i, i < n -> ∃ y, l[i]? = some y /\ p i y
 | 0, _ => ⟨[], rfl, fun i hi => by omega⟩
 | m + 1, h => by
   obtain ⟨l, e1, e2⟩ := yc0 p m (fun i hi => h i (by omega))
   obtain ⟨y, hy⟩ := h m (by omega)
   refine ⟨l ++ [y], by simp [e1], fun i hi => ?_⟩
   by_cases hi' : i < m
   · obtain ⟨z, z1, z2⟩ := e2 i hi'
     exact ⟨z, by rw [List.getElem?_append_left (by omega)]; exact z1, z2⟩
   · have : i = m := by omega
     subst this
     exact ⟨y, by rw [<- e1]; simp, hy⟩
section
variable {H : Type} {enc : TypeId × Value -> H} {P : Program} {W : World}
theorem yba {t : TypeId} {k : IntKind} (ht : P.underlying t = some (.int k)) (hc : P.cellsOf t = 1) : zja enc P W t Int 1 (fun n _ => .int k n) (fun n => (Lit.int k n).wf = true) := by
 refine ⟨hc, fun fuel cs x h => ?_⟩
 obtain ⟨n, rfl, rfl, hw⟩ := DataW.trod_int ht h
 exact ⟨n, hw, rfl, sgl rfl (.int k n)⟩
theorem opens_str {t : TypeId} (ht : P.underlying t = some .string) (hc : P.cellsOf t = 1) : zja enc P W t (List UInt8) 1 (fun l _ => .str l) (fun l => l.length <= maxLen) := by
 refine ⟨hc, fun fuel cs x h => ?_⟩
 obtain ⟨s, rfl, rfl, hs⟩ := DataW.trod_string ht h
 exact ⟨s.data.toList, by rw [Array.length_toList]; exact hs, rfl, sgl rfl (.str _ _ rfl)⟩
def avL {α : Type} (av : α -> Nat -> AV) (l : List α) (i j : Nat) : AV := match l[i]? with | some y => av y j | none => .dead
theorem ybb {t e : TypeId} {α : Type} {sz n : Nat} {av : α -> Nat -> AV} {ok : α -> Prop} (ht : P.underlying t = some (.array n e)) (hc : P.cellsOf t = n * sz) (he : zja enc P W e α sz av ok) (hs : 0 < sz) :
   zja enc P W t (List α) (n * sz) (fun l j => avL av l (j / sz) (j % sz)) (fun l => l.length = n /\ ∀ y ∈ l, ok y) := by
 refine ⟨hc, fun fuel cs x h => ?_⟩
 obtain ⟨xs, m, _, rfl, hl, hx, hel⟩ := DataW.trod_array ht h
 obtain ⟨l, hl1, hl2⟩ : ∃ l : List α, l.length = n /\ ∀ i, i < n -> ∃ y, l[i]? = some y /\ ok y /\ ∀ j, j < sz -> ∃ v, cs[i * sz + j]? = some v /\ one v /\ R W.heap (DW W) zam (av y j) v :=
   yc0 (fun i y => ok y /\ ∀ j, j < sz -> ∃ v, cs[i * sz + j]? = some v /\ one v /\ R W.heap (DW W) zam (av y j) v) n (fun i hi => by
     have h1 := hel i hi
     rw [he.size, List.getElem?_eq_getElem (by omega)] at h1
     obtain ⟨y, y1, y2, y3⟩ := he.go _ _ _ h1
     refine ⟨y, y1, fun j hj => ?_⟩
     obtain ⟨v, v1, v2⟩ := y3 j hj
     rw [List.getElem?_take, if_pos hj, List.getElem?_drop] at v1
     exact ⟨v, v1, v2⟩)
 refine ⟨l, ⟨hl1, fun y hy => ?_⟩, by rw [hl, hc], fun j hj => ?_⟩
 · obtain ⟨i, hi, rfl⟩ := List.getElem_of_mem hy
   obtain ⟨z, z1, z2, _⟩ := hl2 i (by omega)
   rw [List.getElem?_eq_getElem hi] at z1
   cases z1; exact z2
 · have hi : j / sz < n := Nat.div_lt_of_lt_mul (by rw [Nat.mul_comm]; exact hj)
   obtain ⟨z, z1, _, z3⟩ := hl2 (j / sz) hi
   obtain ⟨v, v1, v2⟩ := z3 (j % sz) (Nat.mod_lt _ hs)
   rw [show j / sz * sz + j % sz = j by rw [Nat.mul_comm]; exact Nat.div_add_mod j sz] at v1
   exact ⟨v, v1, by unfold avL; rw [z1]; exact v2⟩
theorem zja.map {t : TypeId} {α β : Type} {sz : Nat} {av : α -> Nat -> AV} {av' : β -> Nat -> AV} {ok : α -> Prop} {ok' : β -> Prop} (O : zja enc P W t α sz av ok) (f : α -> β) (h1 : ∀ y j, j < sz -> av y j = av' (f y) j) (h2 : ∀ y, ok y -> ok' (f y)) : zja enc P W t β sz av' ok' := by
 refine ⟨O.size, fun fuel cs x h => ?_⟩
 obtain ⟨y, y1, y2, y3⟩ := O.go fuel cs x h
 refine ⟨f y, h2 y y1, y2, fun j hj => ?_⟩
 obtain ⟨v, v1, v2, v3⟩ := y3 j hj
 exact ⟨v, v1, v2, by rw [<- h1 y j hj]; exact v3⟩
theorem open_one {t : TypeId} {α : Type} {av : α -> Nat -> AV} {ok : α -> Prop} {v : Value} {d : DataW H} {p : List MemPlace} (O : zja enc P W t α 1 av ok) (hv : v.cells = #[v]) (h : DataW.Trod enc P W 0 (fun _ => true) true t v d p) :
   ∃ y, ok y /\ R W.heap (DW W) zam (av y 0) v := by
 obtain ⟨fuel, h⟩ := h
 obtain ⟨y, y1, y2, y3⟩ := O.go _ _ _ h
 obtain ⟨u, u1, u2, u3⟩ := y3 0 (by omega)
 rw [hv] at u1
 simp at u1
 subst u1
 exact ⟨y, y1, u3⟩
theorem open_agg {t : TypeId} {α : Type} {sz : Nat} {av : α -> Nat -> AV} {ok : α -> Prop} {cs : Array Value} {d : DataW H} {p : List MemPlace} (O : zja enc P W t α sz av ok) (h : DataW.Trod enc P W 0 (fun _ => true) true t (.agg cs) d p) :
   ∃ y, ok y /\ R W.heap (DW W) zam (.agg ((List.range sz).map (av y))) (.agg cs) := by
 obtain ⟨fuel, h⟩ := h
 obtain ⟨y, y1, y2, y3⟩ := O.go _ _ _ h
 refine ⟨y, y1, .agg _ _ (by simpa [Value.cells] using y2.symm) (fun i v hv => ?_) (fun i x v hx hv => ?_)⟩
 · have hi : i < sz := by
     have := (Array.getElem?_eq_some_iff.1 hv).1
     simp [Value.cells] at y2; omega
   obtain ⟨u, u1, u2, u3⟩ := y3 i hi
   simp [Value.cells] at u1
   rw [u1] at hv; cases hv; exact u2
 · have hi : i < sz := by
     have := (List.getElem?_eq_some_iff.1 hx).1
     simpa using this
   obtain ⟨u, u1, u2, u3⟩ := y3 i hi
   simp [Value.cells] at u1
   rw [u1] at hv; cases hv
   simp [hi] at hx
   subst hx; exact u3
end
theorem yem {P : Program} {f : FuncId} {xs ys : List AV} {r : AV} (h : ∀ h D vs, RL h D zam xs vs -> RL h D zam ys vs) (ha : za9 P f ys r) : za9 P f xs r := fun D w vs hD hx => ha D w vs hD (h _ _ _ hx)
end Sy
end Go.Proofs.YthppjaoicibeiaaGreatDoor
namespace Go.Proofs.YthppjaoicibeiaaGreatDoor
namespace Sy
open Go Go.RowKit
set_option maxRecDepth 100000
set_option linter.unusedSimpArgs false
set_option linter.unusedVariables false
structure Vw (α : Type) where
 sz : Nat
 cell : zaa -> α -> Nat -> AV
 rd : (Nat -> AV) -> α
 ok : (Nat -> AV) -> Prop
 d : α
structure znq {α : Type} (V : Vw α) : Prop where
 turn : ∀ c, V.ok c -> ∀ j, j < V.sz -> ∀ (h : Array Obj) (D : Nat -> Prop) (μ : Mu) (v : Value), R h D μ (c j) v -> R h D μ (V.cell std (V.rd c) j) v
 back : ∀ c x, (∀ j, j < V.sz -> c j = V.cell std x j) -> V.ok c /\ V.rd c = x
def zok {α : Type} (V : Vw α) (l : List α) (i : Nat) : α := l.getD i V.d
def zb3 {α : Type} (l : List α) : Nat := l.length
def yxy {α : Type} (L : zaa) (V : Vw α) (l : List α) : Nat -> Nat -> AV := fun i j => V.cell L (L (L (zok V) l) i) j
def zxr {α : Type} (L : zaa) (V : Vw α) (l : List α) : AV := .lst V.sz (L zb3 l) (yxy L V l)
def rdW {α : Type} (V : Vw α) : AV -> List α
 | .lst _ n get => (List.range n).map fun i => V.rd (get i)
 | _ => []
def okW {α : Type} (V : Vw α) : AV -> Prop
 | .lst sz n get => sz = V.sz /\ ∀ i, i < n -> V.ok (get i)
 | .nils => True
 | _ => False
theorem zb2 {α : Type} {V : Vw α} {l : List α} {i : Nat} (h : i < l.length) : zok V l i = l[i] := by
 rw [zok, List.getD_eq_getElem?_getD, List.getElem?_eq_getElem h]; rfl
theorem zin {α : Type} (V : Vw α) (sz n : Nat) (get : Nat -> Nat -> AV) : (rdW V (.lst sz n get)).length = n := by simp [rdW]
theorem yav {α : Type} {V : Vw α} {sz n : Nat} {get : Nat -> Nat -> AV} {i : Nat} (h : i < n) : zok V (rdW V (.lst sz n get)) i = V.rd (get i) := by
 rw [zb2 (by rw [zin]; exact h)]
 simp [rdW]
theorem zog {α : Type} {V : Vw α} (K : znq V) {h : Array Obj} {D : Nat -> Prop} {μ : Mu} {x : AV} {v : Value} (ho : okW V x) (r : R h D μ x v) : R h D μ (zxr std V (rdW V x)) v := by
 match x, ho with
 | .nils, _ => cases r; exact .lst0 _ _ none 0 (fun _ => rfl)
 | .lst sz n get, ho =>
   obtain ⟨rfl, ho⟩ := ho
   have e : zxr std V (rdW V (.lst V.sz n get)) = .lst V.sz n (yxy std V (rdW V (.lst V.sz n get))) := by
     show AV.lst V.sz (zb3 (rdW V (.lst V.sz n get))) _ = _
     rw [show zb3 (rdW V (.lst V.sz n get)) = n from zin _ _ _ _]
   rw [e]
   cases r with
   | lst0 _ _ a cap hn => exact .lst0 _ _ a cap hn
   | lst _ _ _ b o cap vs hD hc hv h1 hr =>
     refine .lst _ _ _ b o cap vs hD hc hv h1 (fun i j hi hj => ?_)
     show R h D zam (V.cell std (zok V (rdW V (.lst V.sz n get)) i) j) (vs i j)
     rw [yav hi]
     exact K.turn _ (ho i hi) j hj _ _ _ _ (hr i j hi hj)
theorem ygd {α : Type} {V : Vw α} (K : znq V) {n : Nat} {get : Nat -> Nat -> AV} {l : List α} (hn : n = l.length) (h : ∀ i j, i < n -> j < V.sz -> get i j = V.cell std (zok V l i) j) : okW V (.lst V.sz n get) /\ rdW V (.lst V.sz n get) = l := by
 subst hn
 refine ⟨⟨rfl, fun i hi => (K.back _ _ (fun j hj => h i j hi hj)).1⟩, ?_⟩
 apply List.ext_getElem
 · rw [zin]
 · intro i h1 h2
   have := yav (V := V) (sz := V.sz) (get := get) h2
   rw [zb2 h1] at this
   rw [this, (K.back _ _ (fun j hj => h i j h2 hj)).2, zb2 h2]
theorem zcn {α : Type} {V : Vw α} (K : znq V) (l : List α) : okW V (zxr std V l) /\ rdW V (zxr std V l) = l := ygd K rfl (fun i j hi hj => rfl)
theorem zju {α : Type} {V : Vw α} (K : znq V) {P : Program} {f : FuncId} {x r : AV} {xs : List AV} (ho : okW V x) (h : za9 P f (zxr std V (rdW V x) :: xs) r) : za9 P f (x :: xs) r :=
 yem (fun hp D vs hr => by
   refine ⟨by rw [<- hr.1]; rfl, fun i z v hz hv => ?_⟩
   cases i with
   | zero => cases hz; exact zog K ho (hr.2 0 x v rfl hv)
   | succ i => exact hr.2 (i + 1) z v hz hv) h
theorem yq9 {α : Type} {V : Vw α} (K : znq V) {P : Program} {f : FuncId} {y x r : AV} {xs : List AV} (ho : okW V x) (h : za9 P f (y :: zxr std V (rdW V x) :: xs) r) : za9 P f (y :: x :: xs) r :=
 yem (fun hp D vs hr => by
   refine ⟨by rw [<- hr.1]; rfl, fun i z v hz hv => ?_⟩
   match i, hz with
   | 0, hz => exact hr.2 0 z v hz hv
   | 1, hz => cases hz; exact zog K ho (hr.2 1 x v rfl hv)
   | i + 2, hz => exact hr.2 (i + 2) z v hz hv) h
def zx8 (x : AV) : List UInt8 := match x with | .str s => s | _ => []
def isS (x : AV) : Prop := ∃ s, x = .str s
def isI (k : IntKind) (x : AV) : Prop := ∃ n, x = .int k n
theorem zxv {x : AV} (h : isS x) {hp : Array Obj} {D : Nat -> Prop} {μ : Mu} {v : Value} (r : R hp D μ x v) : R hp D μ (.str (zx8 x)) v := by obtain ⟨s, rfl⟩ := h; exact r
theorem zp0 {k : IntKind} {x : AV} (h : isI k x) {hp : Array Obj} {D : Nat -> Prop} {μ : Mu} {v : Value} (r : R hp D μ x v) : R hp D μ (.int k x.toI) v := by obtain ⟨s, rfl⟩ := h; exact r
def zm9 {α : Type} (p : α -> Bool) : List α -> Int
 | [] => -1
 | x :: l => if p x = true then 0 else if zm9 p l < 0 then -1 else zm9 p l + 1
theorem zfd {α : Type} (p : α -> Bool) : ∀ l : List α, decide (0 <= zm9 p l) = l.any p
 | [] => by simp [zm9]
 | x :: l => by
   have ih := zfd p l
   unfold zm9
   by_cases h : p x = true
   · simp [h]
   · have h' : p x = false := by simpa using h
     rw [if_neg h, List.any_cons, h', Bool.false_or, <- ih]
     split
     · rename_i h2; rw [decide_eq_false (by omega), decide_eq_false (by omega)]
     · rename_i h2; rw [decide_eq_true (by omega), decide_eq_true (by omega)]
theorem yci {α : Type} {p : α -> Bool} : ∀ {l : List α} {i : Nat} (hi : i < l.length), (∀ k (hk : k < i), p (l[k]'(by omega)) = false) -> p l[i] = true -> zm9 p l = i
 | [], i, hi, _, _ => by simp at hi
 | x :: l, 0, hi, _, h => by simp at h; simp [zm9, h]
 | x :: l, i + 1, hi, h0, h => by
   have hx : p x = false := by simpa using h0 0 (by omega)
   have ih := yci (p := p) (l := l) (i := i) (by simpa using hi) (fun k hk => by have := h0 (k + 1) (by omega); simpa using this) (by simpa using h)
   rw [zm9, if_neg (by rw [hx]; decide), if_neg (by omega), ih]; simp
theorem ych {α : Type} {p : α -> Bool} : ∀ {l : List α}, (∀ x ∈ l, p x = false) -> zm9 p l = -1
 | [], _ => rfl
 | x :: l, h => by
   have hx := h x (by simp)
   have ih := ych (p := p) (l := l) (fun y hy => h y (by simp [hy]))
   rw [zm9, if_neg (by rw [hx]; decide), if_pos (by omega)]
def zl7 {α : Type} (p : α -> Bool) (l : List α) (i : Nat) : Prop := i <= l.length /\ ∀ x ∈ l.take i, p x = false
theorem zit {α : Type} (p : α -> Bool) (l : List α) : zl7 p l 0 := ⟨Nat.zero_le _, fun x hx => by simp at hx⟩
theorem zdo {α : Type} {V : Vw α} {p : α -> Bool} {l : List α} {i : Nat} (h : zl7 p l i) (hi : i < l.length) (hp : p (zok V l i) = false) : zl7 p l (i + 1) := by
 refine ⟨hi, fun x hx => ?_⟩
 rw [List.take_succ_eq_append_getElem hi, List.mem_append] at hx
 rcases hx with hx | hx
 · exact h.2 x hx
 · rw [List.mem_singleton.1 hx, <- zb2 (V := V) hi]; exact hp
theorem zeo {α : Type} {V : Vw α} {p : α -> Bool} {l : List α} {i : Nat} (h : zl7 p l i) (hi : i < l.length) (hp : p (zok V l i) = true) : zm9 p l = i := by
 rw [zb2 hi] at hp
 refine yci hi (fun k hk => h.2 _ ?_) hp
 rw [List.mem_take_iff_getElem]
 exact ⟨k, by omega, rfl⟩
theorem zep {α : Type} {p : α -> Bool} {l : List α} {i : Nat} (h : zl7 p l i) (hi : ¬ i < l.length) : zm9 p l = -1 := by
 have := h.2
 rw [List.take_of_length_le (by omega)] at this
 exact ych this
def zl8 : zma := (203, fun raw ob => match raw with
 | [.ref id 0] => match ob id with
   | some (.box ty cs) => some ⟨[.ref 500000 0], [(500000, .box ty cs)], True, .ref 500000 0, [(500000, .box ty cs)]⟩
   | _ => none
 | _ => none)
theorem zmz : zf0 Tryz.prog zl8 := by
 intro raw ob T hT hp
 unfold zl8 at hT
 simp only at hT
 split at hT
 · split at hT
   · cases hT
     intro D w μ vs hD hxs hdom hobs hinj hown hg hgb
     obtain ⟨v, hv⟩ : ∃ v, vs.toList = [v] := List.length_eq_one_iff.1 (by simpa using hxs.1.symm)
     have : vs = #[v] := by rw [<- Array.toArray_toList (xs := vs), hv]
     subst this
     unfold zf1
     rw [show zl8.fst = 203 from rfl, run_callFunc_extern (fn := Tryz.f203) rfl (by kernel_rfl) (by kernel_rfl) (by kernel_rfl) (e := Extern.AbiNoEscape.same) (by kernel_rfl)]
     rw [Lib.run_noEscape]
     exact ⟨v, D, μ, { ret := rfl, os := rfl, tape := rfl, output := rfl, size := Nat.le_refl _, old := fun _ _ _ => rfl, up := fun _ h => h, dn := fun _ h => .inl h, dom := hdom, obs := hobs, inj := hinj, own := fun n b z h => ⟨(hown n b z h).1, (hown n b z h).2, .inr ⟨n, z, h⟩⟩, keep := fun _ _ _ => rfl, val := hxs.2 0 _ _ rfl rfl }⟩
   · cases hT
 · cases hT
def ypk : zma := (179, fun raw ob => match raw with
 | [.ref id 0] => match ob id with
   | some (.box _ [.nilp, .nils]) => some ⟨[.ref 500000 0], [(500000, .box 172 [.nilp, .nils])], True, .tup [], [(500000, .box 172 [.ref 500000 0, .nils])]⟩
   | some (.box _ [.ref _ 0, .sl k 1 0 n]) => match ob k with
     | some (.row _ 1 m get) => some ⟨[.ref 500000 0], [(500000, .box 172 [.ref 500000 0, .sl 500001 1 0 m]), (500001, .row 5 1 m get)], True, .tup [], [(500000, .box 172 [.ref 500000 0, .sl 500001 1 0 m]), (500001, .row 5 1 m get)]⟩
     | _ => none
   | _ => none
 | _ => none)
theorem yug : zbz Tryz.prog 179 [.ref 500000 0] [(500000, .box 172 [.nilp, .nils])] (.tup []) [(500000, .box 172 [.ref 500000 0, .nils])] := by
 refine zbi (T := tt) (S := fun L => zc6 [] [zl8]) (lo := noA) (lb := noA) 5 (fn := Tryz.f179) (xs := fun L => [.ref 500000 0]) (rts := fun _ => []) (O := fun L => [(500000, .box 172 [.nilp, .nils])]) (O1 := fun L => [(500000, .box 172 [.ref 500000 0, .nils])])
   rfl rfl (by kernel_rfl) (by kernel_rfl) (by kernel_rfl) zab (zaq trivial ⟨zmz, trivial⟩) (by kernel_rfl) ?_
 intro L P' Q' hL hP hQ
 (cbv; try simp only [syT, true_and, and_true])
 exact ⟨fun _ => trivial, fun h => by cases h⟩
theorem yuf (m : Nat) (get : Nat -> Nat -> AV) : zbz Tryz.prog 179 [.ref 500000 0] [(500000, .box 172 [.ref 500000 0, .sl 500001 1 0 m]), (500001, .row 5 1 m get)] (.tup []) [(500000, .box 172 [.ref 500000 0, .sl 500001 1 0 m]), (500001, .row 5 1 m get)] := by
 refine zbi (T := tt) (S := fun L => zc6 [] [zl8]) (lo := noA) (lb := noA) 5 (fn := Tryz.f179) (xs := fun L => [.ref 500000 0]) (rts := fun _ => []) (O := fun L => [(500000, .box 172 [.ref 500000 0, .sl 500001 1 0 m]), (500001, .row 5 1 m get)]) (O1 := fun L => [(500000, .box 172 [.ref 500000 0, .sl 500001 1 0 m]), (500001, .row 5 1 m get)])
   rfl rfl (by kernel_rfl) (by kernel_rfl) (by kernel_rfl) zab (zaq trivial ⟨zmz, trivial⟩) (by kernel_rfl) ?_
 intro L P' Q' hL hP hQ
 (cbv; try simp only [syT, true_and, and_true])
 subst hL
 simp [std]
theorem zlz : zf0 Tryz.prog ypk := by
 intro raw ob T hT hp
 unfold ypk at hT
 simp only at hT
 repeat' split at hT
 all_goals first | (cases hT; done) | (cases hT; exact yug) | (cases hT; exact yuf _ _)
def bld (L : zaa) (l : List UInt8) : List (Nat × Ob) := [(500000, .box 172 [.ref 500000 0, .sl 500001 1 0 (L lenN l)]), (500001, .row 5 1 (L lenN l) (fun i _ => .int .u8 (L2 L za4 l i)))]
def ztw (L : zaa) (l : List UInt8) : List (Nat × Ob) := [(500000, .box 172 [.ref 500000 0, .sl 7 1 0 (L lenN l)]), (7, .row 5 1 (L lenN l) (fun i _ => .int .u8 (L2 L za4 l i)))]
def yqy : List (Nat × Ob) := [(500000, .box 172 [.nilp, .nils])]
def yed (L : zaa) (ob : Nat -> Option Ob) (id : Nat) : Option (Option (List UInt8)) := match ob id with
 | some (.box _ [.nilp, .nils]) => some none
 | some (.box _ [.ref _ 0, .sl k 1 0 n]) => match ob k with
   | some (.row _ 1 m get) => some (some (L2 L zb8 m (fun i => (get i 0).toI)))
   | _ => none
 | _ => none
def zac (l m : List UInt8) : List UInt8 := l ++ m
def zc5 (c : Int) : List UInt8 := [UInt8.ofNat c.toNat]
def yrc (c : Int) : Prop := 0 <= c /\ c < 256
def zf5 (l m : List UInt8) : Prop := l.length + m.length <= 90000000
def yv3 (L : zaa) : zma := (169, fun raw ob => match raw with
 | [.ref id 0, .int .u8 c] => match yed L ob id with
   | some none => some ⟨[.ref 500000 0, .int .u8 c], yqy, L yrc c, .dead, ztw L (L zc5 c)⟩
   | some (some l) => some ⟨[.ref 500000 0, .int .u8 c], bld L l, L yrc c /\ L2 L zf5 l (L zc5 c), .dead, ztw L (L2 L zac l (L zc5 c))⟩
   | none => none
 | _ => none)
def yv1 (L : zaa) : zma := (140, fun raw ob => match raw with
 | [.ref id 0, .str s] => match yed L ob id with
   | some (some l) => some ⟨[.ref 500000 0, .str s], bld L l, L2 L zf5 l s, .tup [.int .i64 (L slen s), .dead], ztw L (L2 L zac l s)⟩
   | _ => none
 | _ => none)
def bs_m (L : zaa) : zma := (126, fun raw ob => match raw with
 | [.ref id 0] => match yed L ob id with
   | some (some l) => some ⟨[.ref 500000 0], bld L l, L (fun l => l ≠ [] /\ l.length <= 90000000) l, .str l, []⟩
   | _ => none
 | _ => none)
def bl_m (L : zaa) : zma := (125, fun raw ob => match raw with
 | [.ref id 0] => match yed L ob id with
   | some (some l) => some ⟨[.ref 500000 0], bld L l, True, .int .i64 (L slen l), bld L l⟩
   | _ => none
 | _ => none)
theorem zpl {l m : List UInt8} {i : Nat} (h : i < l.length) : za4 (l ++ m) i = za4 l i := by
 simp [za4, List.getElem?_append_left h]
theorem zpk {l m : List UInt8} {i : Nat} (h : ¬ i < l.length) : za4 (l ++ m) i = za4 m (i - l.length) := by
 simp [za4, List.getElem?_append_right (show l.length <= i by omega)]
theorem zev (l : List UInt8) : zb8 l.length (fun i => za4 l i) = l := by
 apply List.ext_getElem
 · simp [zb8]
 · intro i h1 h2
   simp [zb8, za4, h2]
theorem zw5 {c : Int} (hc : yrc c) (i : Nat) (h : i < 1) : za2 [c] i = za4 (zc5 c) i := by
 have : i = 0 := by omega
 subst this
 obtain ⟨h0, h1⟩ := hc
 simp [za2, za4, zc5, UInt8.toNat_ofNat']
 omega
theorem yr7 (c : Int) (hc : yrc c) : zbz Tryz.prog 169 [.ref 500000 0, .int .u8 c] yqy .dead (ztw std (zc5 c)) := by
 refine zbi (T := tt) (S := fun L => zc6 [] [ypk]) (lo := noA) (lb := noA) 5 (fn := Tryz.f169) (xs := fun L => [.ref 500000 0, .int .u8 c]) (rts := fun _ => [.dead]) (O := fun L => yqy) (O1 := fun L => ztw L (L zc5 c))
   rfl rfl (by kernel_rfl) (by kernel_rfl) (by kernel_rfl) zab (zaq trivial ⟨zlz, trivial⟩) (by kernel_rfl) ?_
 intro L P' Q' hL hP hQ
 (cbv; try simp only [syT, true_and, and_true])
 subst hL
 simp only [L2, L3, std, zjx]
 have h1 : lenN (zc5 c) = 1 := rfl
 rw [h1]
 exact ⟨by omega, ⟨rfl, fun i j hi hj => by rw [show Nat.add 0 i = i from Nat.zero_add i, zw5 hc i hi]⟩, rfl⟩
theorem yr6 (l : List UInt8) (c : Int) (hc : yrc c) (hl : zf5 l (zc5 c)) : zbz Tryz.prog 169 [.ref 500000 0, .int .u8 c] (bld std l) .dead (ztw std (zac l (zc5 c))) := by
 refine zbi (T := tt) (S := fun L => zc6 [] [ypk]) (lo := noA) (lb := noA) 5 (fn := Tryz.f169) (xs := fun L => [.ref 500000 0, .int .u8 c]) (rts := fun _ => [.dead]) (O := fun L => bld L l) (O1 := fun L => ztw L (L2 L zac l (L zc5 c)))
   rfl rfl (by kernel_rfl) (by kernel_rfl) (by kernel_rfl) zab (zaq trivial ⟨zlz, trivial⟩) (by kernel_rfl) ?_
 intro L P' Q' hL hP hQ
 (cbv; try simp only [syT, true_and, and_true])
 subst hL
 simp only [L2, L3, std, zjx]
 have h1 : lenN (zac l (zc5 c)) = l.length + 1 := by simp [lenN, zac, zc5]
 have h2 : (zc5 c).length = 1 := rfl
 have hl : l.length + (zc5 c).length <= 90000000 := hl
 have h3 : lenN l = l.length := rfl
 rw [h1, h3]
 refine ⟨fun _ _ _ _ => trivial, by omega, ⟨rfl, fun i j hi hj => ?_⟩, rfl⟩
 by_cases h : i < l.length
 · rw [zm0 h, show zac l (zc5 c) = l ++ zc5 c from rfl, zpl h]; rfl
 · rw [zpn h, show zac l (zc5 c) = l ++ zc5 c from rfl, zpk h]
   show AV.int .u8 (za2 [c] (Nat.add 0 (i - l.length))) = _
   rw [show Nat.add 0 (i - l.length) = i - l.length from Nat.zero_add _, zw5 hc _ (by omega)]
theorem yr1 (l s : List UInt8) (hl : zf5 l s) : zbz Tryz.prog 140 [.ref 500000 0, .str s] (bld std l) (.tup [.int .i64 (slen s), .dead]) (ztw std (zac l s)) := by
 refine zbi (T := tt) (S := fun L => zc6 [] [ypk]) (lo := noA) (lb := noA) 5 (fn := Tryz.f140) (xs := fun L => [.ref 500000 0, .str s]) (rts := fun L => [.int .i64 (L slen s), .dead]) (O := fun L => bld L l) (O1 := fun L => ztw L (L2 L zac l s))
   rfl rfl (by kernel_rfl) (by kernel_rfl) (by kernel_rfl) zab (zaq trivial ⟨zlz, trivial⟩) (by kernel_rfl) ?_
 intro L P' Q' hL hP hQ
 (cbv; try simp only [syT, true_and, and_true])
 subst hL
 simp only [L2, L3, std, zjx]
 have h1 : lenN (zac l s) = l.length + s.length := by simp [lenN, zac]
 have hl : l.length + s.length <= 90000000 := hl
 have h3 : lenN l = l.length := rfl
 rw [h1, h3]
 refine ⟨fun _ _ _ _ => trivial, by omega, ⟨rfl, fun i j hi hj => ?_⟩, rfl⟩
 by_cases h : i < l.length
 · rw [zm0 h, show zac l s = l ++ s from rfl, zpl h]; rfl
 · rw [zpn h, show zac l s = l ++ s from rfl, zpk h]; rfl
theorem yuo (l : List UInt8) (h0 : l ≠ []) (hl : l.length <= 90000000) : zbz Tryz.prog 126 [.ref 500000 0] (bld std l) (.str l) [] := by
 refine zbi (T := tt) (S := fun L => zc6 [] [ypk]) (lo := noA) (lb := noA) 5 (fn := Tryz.f126) (xs := fun L => [.ref 500000 0]) (rts := fun L => [.str l]) (O := fun L => bld L l) (O1 := fun L => [])
   rfl rfl (by kernel_rfl) (by kernel_rfl) (by kernel_rfl) zab (zaq trivial ⟨zlz, trivial⟩) (by kernel_rfl) ?_
 intro L P' Q' hL hP hQ
 (cbv; try simp only [syT, true_and, and_true])
 subst hL
 simp only [L2, L3, std]
 have h3 : lenN l = l.length := rfl
 have h1 : 0 < l.length := List.length_pos_iff.2 h0
 refine ⟨zm0 h1, ⟨by show (0 : Int) < (l.length : Int); omega, by show (l.length : Int) <= (l.length : Int); omega, by show (l.length : Int) <= _; omega, fun i hi => ⟨_, rfl, ?_, ?_⟩⟩, zev l⟩
 · simp [za4]
 · have := UInt8.toNat_lt (l.getD i 0)
   show ((l.getD i 0).toNat : Int) < 256
   omega
theorem yuq (l : List UInt8) : zbz Tryz.prog 125 [.ref 500000 0] (bld std l) (.int .i64 (slen l)) (bld std l) := by
 refine zbi (T := tt) (S := fun L => zc6 [] [ypk]) (lo := noA) (lb := noA) 5 (fn := Tryz.f125) (xs := fun L => [.ref 500000 0]) (rts := fun L => [.int .i64 (L slen l)]) (O := fun L => bld L l) (O1 := fun L => bld L l)
   rfl rfl (by kernel_rfl) (by kernel_rfl) (by kernel_rfl) zab (zaq trivial ⟨zlz, trivial⟩) (by kernel_rfl) ?_
 intro L P' Q' hL hP hQ
 (cbv; try simp only [syT, true_and, and_true])
 subst hL
 exact ⟨fun _ _ _ _ => trivial, rfl⟩
theorem zzj : zf0 Tryz.prog (yv3 std) := by
 intro raw ob T hT hp
 unfold yv3 at hT
 simp only at hT
 repeat' split at hT
 all_goals first | (cases hT; done) | (cases hT; exact yr7 _ hp) | (cases hT; exact yr6 _ _ hp.1 hp.2)
theorem zz9 : zf0 Tryz.prog (yv1 std) := by
 intro raw ob T hT hp
 unfold yv1 at hT
 simp only at hT
 repeat' split at hT
 all_goals first | (cases hT; done) | (cases hT; exact yr1 _ _ hp)
theorem yq2 : zf0 Tryz.prog (bs_m std) := by
 intro raw ob T hT hp
 unfold bs_m at hT
 simp only at hT
 repeat' split at hT
 all_goals first | (cases hT; done) | (cases hT; exact yuo _ hp.1 hp.2)
theorem yq4 : zf0 Tryz.prog (bl_m std) := by
 intro raw ob T hT hp
 unfold bl_m at hT
 simp only at hT
 repeat' split at hT
 all_goals first | (cases hT; done) | (cases hT; exact yuq _)
inductive CV where
 | mk (k n : Int) (s : List UInt8) (l : List CV)
namespace CV
def kd : CV -> Int
 | mk k _ _ _ => k
def nn : CV -> Int
 | mk _ n _ _ => n
def tx : CV -> List UInt8
 | mk _ _ s _ => s
def ls : CV -> List CV
 | mk _ _ _ l => l
theorem eta (v : CV) : mk v.kd v.nn v.tx v.ls = v := by cases v; rfl
end CV
def zdi (l : List CV) (i : Nat) : CV := l.getD i (.mk 0 0 [] [])
def lenL (l : List CV) : Nat := l.length
def zm8 (v : CV) : Nat := v.ls.length
def sizeC : CV -> Nat
 | .mk _ _ _ l => sizeCs l + 1
where sizeCs : List CV -> Nat
 | [] => 0
 | v :: l => sizeC v + sizeCs l
abbrev sizeCs := sizeC.sizeCs
theorem zcf : sizeCs [] = 0 := by simp [sizeC.sizeCs]
theorem zbk (v : CV) (l : List CV) : sizeCs (v :: l) = sizeC v + sizeCs l := by simp [sizeC.sizeCs]
theorem zck (k n : Int) (s : List UInt8) (l : List CV) : sizeC (.mk k n s l) = sizeCs l + 1 := by rw [sizeC]
theorem zeh (v : CV) : 0 < sizeC v := by cases v; rw [zck]; omega
theorem zkr : ∀ (l : List CV) (i : Nat), i < l.length -> sizeC (zdi l i) <= sizeCs l
 | [], i, h => by simp at h
 | v :: l, 0, h => by rw [zbk]; show sizeC v <= _; omega
 | v :: l, i + 1, h => by
   have := zkr l i (by simpa using h)
   rw [zbk]
   show sizeC (zdi l i) <= _
   omega
theorem zv5 {l : List CV} {i : Nat} (h : i < l.length) : zdi l i ∈ l := by
 rw [zdi, List.getD_eq_getElem?_getD, List.getElem?_eq_getElem h]; exact List.getElem_mem h
theorem ykg {p : CV -> Prop} (h : ∀ k n s l, (∀ v ∈ l, p v) -> p (.mk k n s l)) : ∀ (m : Nat) (v : CV), sizeC v <= m -> p v
 | 0, v, hv => by have := zeh v; omega
 | m + 1, .mk k n s l, hv => h k n s l fun w hw => by
   rw [zck] at hv
   obtain ⟨i, hi, rfl⟩ := List.getElem_of_mem hw
   have := zkr l i hi
   have e : zdi l i = l[i] := by rw [zdi, List.getD_eq_getElem?_getD, List.getElem?_eq_getElem hi]; rfl
   rw [e] at this
   exact ykg h m _ (by omega)
theorem ydi {p : CV -> Prop} (h : ∀ k n s l, (∀ v ∈ l, p v) -> p (.mk k n s l)) (v : CV) : p v := ykg h _ v (Nat.le_refl _)
def dflC : Nat -> AV
 | 0 => .int .i64 0
 | 1 => .int .u64 0
 | 2 => .str []
 | _ => .lst 4 0 (fun _ _ => .dead)
mutual
def ze1 : CV -> Nat -> AV
 | .mk k n s l, j => match j with
   | 0 => .int .i64 k
   | 1 => .int .u64 n
   | 2 => .str s
   | _ => .lst 4 l.length (zi5 l)
def zi5 : List CV -> Nat -> Nat -> AV
 | [], _, j => dflC j
 | v :: l, i, j => match i with
   | 0 => ze1 v j
   | i + 1 => zi5 l i j
end
theorem zfi (v : CV) : ze1 v 0 = .int .i64 v.kd := by cases v; rw [ze1]; rfl
theorem zfh (v : CV) : ze1 v 1 = .int .u64 v.nn := by cases v; rw [ze1]; rfl
theorem zfg (v : CV) : ze1 v 2 = .str v.tx := by cases v; rw [ze1]; rfl
theorem zff (v : CV) : ze1 v 3 = .lst 4 v.ls.length (zi5 v.ls) := by cases v; rw [ze1] <;> first | rfl | (intro h; cases h)
theorem zbs : ∀ (l : List CV) (i j : Nat), i < l.length -> zi5 l i j = ze1 (zdi l i) j
 | [], i, j, h => by simp at h
 | v :: l, 0, j, h => by rw [zi5]; rfl
 | v :: l, i + 1, j, h => by rw [zi5]; exact zbs l i j (by simpa using h)
def zkd (v : CV) : Nat -> Nat -> AV := zi5 v.ls
def cv1 (L : zaa) (v : CV) : Nat -> AV
 | 0 => .int .i64 (L CV.kd v)
 | 1 => .int .u64 (L CV.nn v)
 | 2 => .str (L CV.tx v)
 | _ => .lst 4 (L zm8 v) (L zkd v)
theorem ztn (v : CV) (j : Nat) (h : j < 4) : cv1 std v j = ze1 v j := by
 match j, h with
 | 0, _ => rw [zfi]; rfl
 | 1, _ => rw [zfh]; rfl
 | 2, _ => rw [zfg]; rfl
 | 3, _ => rw [zff]; rfl
def cvL (L : zaa) (l : List CV) : AV := .lst 4 (L lenL l) (fun i j => cv1 L (L2 L zdi l i) j)
def cvA (L : zaa) (v : CV) : AV := .agg [.int .i64 (L CV.kd v), .int .u64 (L CV.nn v), .str (L CV.tx v), .lst 4 (L zm8 v) (L zkd v)]
def rdL : AV -> List CV
 | .lst _ n get => (List.range n).map fun i => .mk (get i 0).toI (get i 1).toI (match get i 2 with | .str s => s | _ => []) (rdL (get i 3))
 | _ => []
def okL : AV -> Prop
 | .lst sz n get => sz = 4 /\ ∀ i, i < n -> (∃ x, get i 0 = .int .i64 x) /\ (∃ x, get i 1 = .int .u64 x) /\ (∃ x, get i 2 = .str x) /\ okL (get i 3)
 | .nils => True
 | _ => False
theorem zkx (sz n : Nat) (get : Nat -> Nat -> AV) : (rdL (.lst sz n get)).length = n := by simp [rdL]
theorem zup {sz n : Nat} {get : Nat -> Nat -> AV} {i : Nat} (h : i < n) : zdi (rdL (.lst sz n get)) i = .mk (get i 0).toI (get i 1).toI (match get i 2 with | .str s => s | _ => []) (rdL (get i 3)) := by
 rw [zdi, List.getD_eq_getElem?_getD, rdL]
 simp [h]
theorem ykh {a b : List CV} (h : a.length = b.length) (k : ∀ i, i < a.length -> zdi a i = zdi b i) : a = b := by
 apply List.ext_getElem h
 intro i h1 h2
 have := k i h1
 rw [zdi, zdi, List.getD_eq_getElem?_getD, List.getD_eq_getElem?_getD, List.getElem?_eq_getElem h1, List.getElem?_eq_getElem h2] at this
 exact this
theorem ymh : ∀ v : CV, rdL (ze1 v 3) = v.ls /\ okL (ze1 v 3) := by
 refine ydi fun k n s l ih => ?_
 rw [zff]
 show rdL (.lst 4 l.length (zi5 l)) = l /\ okL (.lst 4 l.length (zi5 l))
 refine ⟨ykh (zkx _ _ _) fun i hi => ?_, rfl, fun i hi => ?_⟩
 · rw [zkx] at hi
   rw [zup hi, zbs _ _ _ hi, zbs _ _ _ hi, zbs _ _ _ hi, zbs _ _ _ hi, zfi, zfh, zfg, (ih _ (zv5 hi)).1]
   exact CV.eta _
 · rw [zbs _ _ _ hi, zbs _ _ _ hi, zbs _ _ _ hi, zbs _ _ _ hi, zfi, zfh, zfg]
   exact ⟨⟨_, rfl⟩, ⟨_, rfl⟩, ⟨_, rfl⟩, (ih _ (zv5 hi)).2⟩
theorem zky (v : CV) : rdL (.lst 4 (zm8 v) (zkd v)) = v.ls /\ okL (.lst 4 (zm8 v) (zkd v)) := by
 have := ymh v
 rw [zff] at this
 exact this
theorem yau (l : List CV) : rdL (cvL std l) = l /\ okL (cvL std l) := by
 refine ⟨ykh (zkx _ _ _) fun i hi => ?_, rfl, fun i hi => ⟨⟨_, rfl⟩, ⟨_, rfl⟩, ⟨_, rfl⟩, (zky _).2⟩⟩
 have hi : i < l.length := by rw [show (rdL (cvL std l)).length = lenL l from zkx _ _ _] at hi; exact hi
 show zdi (rdL (.lst 4 (lenL l) _)) i = _
 rw [zup (show i < lenL l from hi)]
 show CV.mk (zdi l i).kd (zdi l i).nn (zdi l i).tx (rdL (.lst 4 (zm8 (zdi l i)) (zkd (zdi l i)))) = _
 rw [(zky _).1, CV.eta]
theorem ysd {h : Array Obj} {D : Nat -> Prop} : ∀ (x : AV) {μ : Mu} {v : Value}, okL x -> R h D μ x v -> R h D μ (.lst 4 (rdL x).length (zi5 (rdL x))) v := by
 intro x μ v ho r
 induction r with
 | nils => exact .lst0 _ _ _ _ (fun _ => rfl)
 | lst0 sz get a cap hn => exact .lst0 _ _ _ _ hn
 | lst sz n get b o cap vs hD hc hv h1 hr ih =>
   obtain ⟨rfl, ho⟩ := ho
   rw [zkx]
   refine .lst _ _ _ b o cap vs hD hc hv h1 (fun i j hi hj => ?_)
   rw [zbs _ _ _ (by rw [zkx]; exact hi), zup hi]
   obtain ⟨⟨x0, e0⟩, ⟨x1, e1⟩, ⟨x2, e2⟩, o3⟩ := ho i hi
   have hj' := hr i j hi hj
   match j, hj with
   | 0, _ => rw [zfi]; rw [e0] at hj' |-; exact hj'
   | 1, _ => rw [zfh]; rw [e1] at hj' |-; exact hj'
   | 2, _ => rw [zfg]; rw [e2] at hj' |-; exact hj'
   | 3, _ => rw [zff]; exact ih i 3 hi (by omega) o3
 | _ => exact ho.elim
theorem yu9 {h : Array Obj} {D : Nat -> Prop} {μ : Mu} {l : List CV} {v : Value} (r : R h D μ (.lst 4 l.length (zi5 l)) v) : R h D μ (cvL std l) v :=
 zoq r fun i j hi hj => by
   rw [zbs _ _ _ hi]
   exact (ztn _ j hj).symm
mutual
def zd7 : CV -> Int
 | .mk k _ _ l => if k = 3 then zaz l + 1 else 0
def zaz : List CV -> Int
 | [] => 0
 | v :: l => max (zd7 v) (zaz l)
end
theorem zni : ∀ a b : List CV, zaz (a ++ b) = max (zaz a) (zaz b)
 | [], b => by
   rw [List.nil_append, zaz]
   have : ∀ b : List CV, 0 <= zaz b := by
     intro b
     induction b with
     | nil => rw [zaz]; omega
     | cons v l ih => rw [zaz]; omega
   have := this b
   omega
 | v :: a, b => by rw [List.cons_append, zaz, zni a b, zaz]; omega
theorem zud {l : List CV} {i : Nat} (h : i < l.length) : l.take (i + 1) = l.take i ++ [zdi l i] := by
 rw [List.take_succ_eq_append_getElem h, zdi, List.getD_eq_getElem?_getD, List.getElem?_eq_getElem h]; rfl
def zgx (l : List CV) (i : Nat) : Int := zaz (l.take i)
theorem ztl {l : List CV} {i : Nat} (h : i < l.length) : zgx l (i + 1) = max (zgx l i) (zd7 (zdi l i)) := by
 unfold zgx
 rw [zud h, zni, zaz, zaz]
 have : 0 <= zd7 (zdi l i) \/ True := .inr trivial
 have h0 : ∀ b : List CV, 0 <= zaz b := by
   intro b
   induction b with
   | nil => rw [zaz]; omega
   | cons v l ih => rw [zaz]; omega
 have := h0 (l.take i)
 omega
mutual
def zew : CV -> Bool
 | .mk k n s l => if k = 1 then decide (s = []) && l.isEmpty else if k = 2 then decide (n = 0) && l.isEmpty else if k = 3 then decide (n = 0) && decide (s = []) && zdf l else false
def zdf : List CV -> Bool
 | [] => true
 | v :: l => zew v && zdf l
end
def zfo (k : Int) : List UInt8 := [UInt8.ofNat (k % 256).toNat]
mutual
def zbn : CV -> List UInt8
 | .mk k n s l => zfo k ++ if k = 1 then zaw n else if k = 2 then zaw s.length ++ s else zaw l.length ++ zav l
def zav : List CV -> List UInt8
 | [] => []
 | v :: l => zbn v ++ zav l
end
theorem zih : ∀ a b : List CV, zav (a ++ b) = zav a ++ zav b
 | [], b => by rw [zav]; rfl
 | v :: a, b => by rw [List.cons_append, zav, zih a b, zav, List.append_assoc]
def zgu (l : List CV) (i : Nat) : List UInt8 := zav (l.take i)
theorem zds {l : List CV} {i : Nat} (h : i < l.length) : zgu l (i + 1) = zgu l i ++ zbn (zdi l i) := by
 unfold zgu
 rw [zud h, zih, zav, zav, List.append_nil]
def mkV (L : zaa) (k n : Int) (s : List UInt8) (x : AV) : CV := L (L (L (L CV.mk k) n) s) (L rdL x)
def zpz (N : Nat) (v : CV) : Prop := sizeC v <= N /\ N <= 1000000
def zs7 (N : Nat) (l : List CV) : Prop := sizeCs l <= N /\ N <= 1000000
theorem zn5 : ∀ l : List CV, l.length <= sizeCs l
 | [] => by simp
 | v :: l => by
   have := zn5 l
   have := zeh v
   rw [zbk, List.length_cons]; omega
theorem zv4 {N : Nat} {l : List CV} {i : Nat} (h : zs7 N l) (hi : i < l.length) : zpz N (zdi l i) := by
 have := zkr l i hi
 exact ⟨by have := h.1; omega, h.2⟩
theorem zcb {N : Nat} {k n : Int} {s : List UInt8} {l : List CV} : zpz (N + 1) (.mk k n s l) = (zs7 N l /\ N + 1 <= 1000000) := by
 unfold zpz zs7
 rw [zck]
 exact propext ⟨fun h => ⟨⟨by omega, by omega⟩, by omega⟩, fun h => ⟨by have := h.1.1; omega, h.2⟩⟩
theorem zdj (v : CV) : CV.mk v.kd v.nn v.tx (rdL (.lst 4 (zm8 v) (zkd v))) = v := by rw [(zky v).1]; exact CV.eta v
theorem zbv (v : CV) : mkV std v.kd v.nn v.tx (.lst 4 (zm8 v) (zkd v)) = v := zdj v
theorem rdl (l : List CV) : rdL (.lst 4 (lenL l) fun i => cv1 std (zdi l i)) = l := (yau l).1
theorem okl (l : List CV) : okL (.lst 4 (lenL l) fun i => cv1 std (zdi l i)) := (yau l).2
theorem mkl (k n : Int) (s : List UInt8) (l : List CV) : mkV std k n s (.lst 4 (lenL l) fun i => cv1 std (zdi l i)) = .mk k n s l := by
 show CV.mk k n s (rdL _) = _
 rw [rdl]
theorem yl0 {h : Array Obj} {D : Nat -> Prop} {μ : Mu} {a b c x : AV} {v : Value} (ho : okL x) (r : R h D μ (.agg [a, b, c, x]) v) : R h D μ (.agg [a, b, c, cvL std (rdL x)]) v := by
 obtain ⟨us, rfl, o1, s1, hr⟩ := r.inv_agg
 refine .agg _ _ (by rw [<- s1]; rfl) o1 fun i y v hy hv => ?_
 match i, hy with
 | 0, hy => cases hy; exact hr 0 _ v rfl hv
 | 1, hy => cases hy; exact hr 1 _ v rfl hv
 | 2, hy => cases hy; exact hr 2 _ v rfl hv
 | 3, hy => cases hy; exact yu9 (ysd x ho (hr 3 _ v rfl hv))
 | i + 4, hy => simp at hy
theorem ym9 {h : Array Obj} {D : Nat -> Prop} {μ : Mu} {x y : AV} {r : List AV} {vs : Array Value} (e : ∀ v, R h D μ x v -> R h D μ y v) (hr : RL h D μ (x :: r) vs) : RL h D μ (y :: r) vs := by
 refine ⟨by rw [<- hr.1]; rfl, fun i z v hz hv => ?_⟩
 cases i with
 | zero => cases hz; exact e v (hr.2 0 x v rfl hv)
 | succ i => exact hr.2 (i + 1) z v hz hv
theorem yrz {h : Array Obj} {D : Nat -> Prop} {μ : Mu} {a x y : AV} {r : List AV} {vs : Array Value} (e : ∀ v, R h D μ x v -> R h D μ y v) (hr : RL h D μ (a :: x :: r) vs) : RL h D μ (a :: y :: r) vs := by
 refine ⟨by rw [<- hr.1]; rfl, fun i z v hz hv => ?_⟩
 match i, hz with
 | 0, hz => exact hr.2 0 z v hz hv
 | 1, hz => cases hz; exact e v (hr.2 1 x v rfl hv)
 | i + 2, hz => exact hr.2 (i + 2) z v hz hv
theorem zdm {P : Program} {f : FuncId} {xs ys : List AV} {r : AV} (h : ∀ h D vs, RL h D zam xs vs -> RL h D zam ys vs) (ha : za9 P f ys r) : za9 P f xs r := fun D w vs hD hx => ha D w vs hD (h _ _ _ hx)
theorem yvy {P : Program} {f : FuncId} {a b c x r : AV} (ho : okL x) (h : za9 P f [.agg [a, b, c, cvL std (rdL x)]] r) : za9 P f [.agg [a, b, c, x]] r :=
 zdm (fun h D vs hr => ym9 (fun v => yl0 ho) hr) h
theorem ysy {h : Array Obj} {D : Nat -> Prop} {μ : Mu} {x : AV} {v : Value} (ho : okL x) (r : R h D μ x v) : R h D μ (cvL std (rdL x)) v := yu9 (ysd x ho r)
theorem yvz {P : Program} {f : FuncId} {x r : AV} {q : List AV} (ho : okL x) (h : za9 P f (cvL std (rdL x) :: q) r) : za9 P f (x :: q) r :=
 zdm (fun h D vs hr => ym9 (fun v => ysy ho) hr) h
def yy3 (L : zaa) (l : List CV) : Nat -> St -> Option Ann := fun id s => match id with
 | 0 => some ⟨Nat, fun i => [(12, .int .i64 (L zan i)), (3, .int .i64 (L2 L zgx l i))], fun i => [], [10, 11], [],
     fun i => L2 L (fun (l : List CV) i => i <= l.length) l i, fun i => L2 L (fun (l : List CV) (i : Nat) => l.length - i) l i⟩
 | _ => none
def zre (N : Nat) (L : zaa) : zb4 := (123, fun xs => match xs with
 | [.agg [.int .i64 k, .int .u64 n, .str s, x]] => some (L okL x /\ L2 L zpz N (mkV L k n s x), .int .i64 (L zd7 (mkV L k n s x)))
 | _ => none)
theorem yp5 : ∀ v, 0 <= zd7 v /\ zd7 v <= (sizeC v : Int) := by
 refine ydi fun k n s l ih => ?_
 have : ∀ m : List CV, (∀ v ∈ m, 0 <= zd7 v /\ zd7 v <= (sizeC v : Int)) -> 0 <= zaz m /\ zaz m <= (sizeCs m : Int) := by
   intro m
   induction m with
   | nil => intro _; rw [zaz, zcf]; omega
   | cons v m ih =>
     intro h
     have h1 := h v (by simp)
     have h2 := ih fun w hw => h w (by simp [hw])
     rw [zaz, zbk]; omega
 have := this l ih
 rw [zd7, zck]
 split <;> omega
theorem ydh (l : List CV) (i : Nat) : 0 <= zgx l i /\ zgx l i <= (sizeCs l : Int) := by
 have h1 : ∀ m : List CV, 0 <= zaz m /\ zaz m <= (sizeCs m : Int) := by
   intro m
   induction m with
   | nil => rw [zaz, zcf]; omega
   | cons v m ih => have := yp5 v; rw [zaz, zbk]; omega
 have h2 := h1 (l.take i)
 have h3 : ∀ (m : List CV) (i : Nat), sizeCs (m.take i) <= sizeCs m := by
   intro m
   induction m with
   | nil => intro i; simp
   | cons v m ih =>
     intro i
     cases i with
     | zero => rw [List.take_zero, zcf]; omega
     | succ i => have := ih i; rw [List.take_succ_cons, zbk, zbk]; omega
 have := h3 l i
 exact ⟨h2.1, by unfold zgx; omega⟩
theorem ydg : ∀ N, zao Tryz.prog (zre N std) := by
 intro N
 induction N with
 | zero =>
   intro xs p r h hp
   unfold zre at h
   simp only at h
   split at h
   · rename_i k n s x
     cases h
     have h1 : sizeC (mkV std k n s x) <= 0 := hp.2.1
     have := zeh (mkV std k n s x)
     omega
   · cases h
 | succ N ih =>
   intro xs p r h hp
   unfold zre at h
   simp only at h
   split at h
   · rename_i k n s x
     cases h
     obtain ⟨ho, hz⟩ := hp
     refine yvy ho ?_
     show za9 _ _ _ (.int .i64 (zd7 (.mk k n s (rdL x))))
     have hz : zpz (N + 1) (.mk k n s (rdL x)) := hz
     generalize rdL x = l at hz |-
     refine za8 (T := tt) (S := fun L => zad [zre N L]) (lo := fun L => yy3 L l) (lb := noA) 5 (fn := Tryz.f123) (xs := fun L => [.agg [.int .i64 k, .int .u64 n, .str s, cvL L l]]) rfl rfl (by kernel_rfl) (by kernel_rfl) rfl zab
       (za1 ⟨ih, trivial⟩) (by kernel_rfl) ?_
     intro L P' Q' hL hP hQ
     (cbv; try simp only [syT, true_and, and_true])
     refine ⟨fun h => ?_, fun h => ⟨⟨0, ?_⟩, fun i hi => ?_⟩⟩
     · (subst hL; subst hQ; simp only [L2, L3, std] at *; try simp only [syS, reduceCtorEq, Int.reduceToNat, Int.reduceAdd, Int.reduceSub] at *)
       rw [zd7, if_neg h]
     · (cbv; try simp only [syT, true_and, and_true])
       (subst hL; subst hQ; simp only [L2, L3, std] at *; try simp only [syS, reduceCtorEq, Int.reduceToNat, Int.reduceAdd, Int.reduceSub] at *)
       exact ⟨by rw [zgx, List.take_zero, zaz], Nat.zero_le _⟩
     · cbv at hi
       (cbv; try simp only [syT, true_and, and_true])
       refine ⟨fun hlt => ⟨?_, ⟨?_, ?_⟩, ⟨i + 1, ?_⟩⟩, fun hge => ?_⟩
       · (subst hL; subst hQ; simp only [L2, L3, std] at *; try simp only [syS, reduceCtorEq, Int.reduceToNat, Int.reduceAdd, Int.reduceSub] at *)
         omega
       · (subst hL; subst hQ; simp only [L2, L3, std] at *; try simp only [syS, reduceCtorEq, Int.reduceToNat, Int.reduceAdd, Int.reduceSub] at *)
         exact (zky _).2
       · (subst hL; subst hQ; simp only [L2, L3, std] at *; try simp only [syS, reduceCtorEq, Int.reduceToNat, Int.reduceAdd, Int.reduceSub] at *)
         rw [zdj]
         rw [zcb] at hz
         exact zv4 hz.1 (by have : lenL l = l.length := rfl; omega)
       · (cbv; try simp only [syT, true_and, and_true])
         (subst hL; subst hQ; simp only [L2, L3, std] at *; try simp only [syS, reduceCtorEq, Int.reduceToNat, Int.reduceAdd, Int.reduceSub] at *)
         have : lenL l = l.length := rfl
         have := zn5 l
         have h1 := hz.1
         have h2 := hz.2
         rw [zck] at h1
         rw [zbv]
         exact ⟨by rw [ztl (by omega)], by omega, by omega, by omega⟩
       · (subst hL; subst hQ; simp only [L2, L3, std] at *; try simp only [syS, reduceCtorEq, Int.reduceToNat, Int.reduceAdd, Int.reduceSub] at *)
         have : lenL l = l.length := rfl
         have hil : i = l.length := by omega
         have h3 := ydh l i
         have h1 := hz.1
         have h2 := hz.2
         rw [zck] at h1
         rw [zd7, if_pos h, hil, zgx, List.take_length]
         rw [hil, zgx, List.take_length] at h3
         omega
   · cases h
theorem zj8 : ∀ l : List CV, zdf l = true ↔ ∀ i, i < l.length -> zew (zdi l i) = true
 | [] => by rw [zdf]; simp
 | v :: l => by
   rw [zdf, Bool.and_eq_true, zj8 l]
   refine ⟨fun ⟨h1, h2⟩ i hi => ?_, fun h => ⟨h 0 (by simp), fun i hi => h (i + 1) (by simpa using hi)⟩⟩
   cases i with
   | zero => exact h1
   | succ i => exact h2 i (by simpa using hi)
def yhs (l : List CV) : Int := if zdf l = true then -1 else (l.findIdx fun v => !zew v : Nat)
def yur (l : List CV) (i : Nat) : Prop := i <= l.length /\ ∀ j, j < i -> zew (zdi l j) = true
theorem yo4 {l : List CV} {i : Nat} (hi : i < l.length) (h : ∀ j, j < i -> zew (zdi l j) = true) (hn : zew (zdi l i) = false) : yhs l = (i : Int) := by
 have hb : ¬ zdf l = true := by
   rw [zj8]
   intro h2
   have := h2 i hi
   rw [hn] at this; cases this
 rw [yhs, if_neg hb]
 congr 1
 rw [List.findIdx_eq hi]
 have get : ∀ (j : Nat) (hj : j < l.length), l[j] = zdi l j := by
   intro j hj
   rw [zdi, List.getD_eq_getElem?_getD, List.getElem?_eq_getElem hj]; rfl
 refine ⟨by rw [get i hi, hn]; rfl, fun j hj => ?_⟩
 have hj' := h j hj
 rw [get j (by omega), hj']; rfl
theorem yhr {l : List CV} (h : ∀ j, j < l.length -> zew (zdi l j) = true) : yhs l = -1 := by rw [yhs, if_pos ((zj8 l).2 h)]
theorem yo3 (l : List CV) : (0 <= yhs l) = (zdf l = false) := by
 unfold yhs
 split
 · rename_i h; rw [h]; simp
 · rename_i h; simp at h; rw [h]; simp
def yvw (N : Nat) (L : zaa) : zb4 := (168, fun xs => match xs with
 | [.agg [.int .i64 k, .int .u64 n, .str s, x]] => some (L okL x /\ L2 L zpz N (mkV L k n s x), .bool (L not (L zew (mkV L k n s x))))
 | _ => none)
def yvm (N : Nat) (L : zaa) : zb4 := (194, fun xs => match xs with
 | [x, .fn 168 [] []] => some (L okL x /\ L2 L zs7 N (L rdL x), .int .i64 (L yhs (L rdL x)))
 | _ => none)
def cf_s (N : Nat) (L : zaa) : zb4 := (167, fun xs => match xs with
 | [x, .fn 168 [] []] => some (L okL x /\ L2 L zs7 N (L rdL x), .bool (L not (L zdf (L rdL x))))
 | _ => none)
def znm (N : Nat) (L : zaa) : zb4 := (122, fun xs => match xs with
 | [.agg [.int .i64 k, .int .u64 n, .str s, x]] => some (L okL x /\ L2 L zpz N (mkV L k n s x), .bool (L zew (mkV L k n s x)))
 | _ => none)
theorem yxh (l : List CV) : ieq ((lenL l : Nat) : Int) 0 = l.isEmpty := by
 cases l with
 | nil => rfl
 | cons v l =>
   simp [lenL, ieq]
   omega
theorem ytc (a b : Int) : (ile a b = false) = ¬ a <= b := by simp [ile]
theorem b1_of {N : Nat} (ih : zao Tryz.prog (znm N std)) : zao Tryz.prog (yvw N std) := by
 intro xs p r h hp
 unfold yvw at h
 simp only at h
 split at h
 rotate_left
 · cases h
 rename_i k n s x
 cases h
 obtain ⟨ho, hz⟩ := hp
 refine yvy ho ?_
 rw [show mkV std k n s x = .mk k n s (rdL x) from rfl] at hz |-
 generalize rdL x = l at hz |-
 have hz : zpz N (.mk k n s l) := hz
 refine za8 (xs := fun L => [.agg [.int .i64 k, .int .u64 n, .str s, cvL L l]]) (T := tt) (S := fun L => zad [znm N L]) (lo := noA) (lb := noA) 5 (fn := Tryz.f168) rfl rfl (by kernel_rfl) (by kernel_rfl) rfl zab (za1 ⟨ih, trivial⟩) (by kernel_rfl) ?_
 intro L P' Q' hL hP hQ
 (cbv; try simp only [syT, true_and, and_true])
 (subst hL; subst hQ; simp only [L2, L3, std] at *; try simp only [syS, reduceCtorEq, Int.reduceToNat, Int.reduceAdd, Int.reduceSub] at *)
 rw [rdl, mkl]
 exact ⟨⟨okl l, hz⟩, rfl⟩
def ifA (L : zaa) (l : List CV) : Nat -> St -> Option Ann := fun id s => match id with
 | 0 => some ⟨Nat, fun i => [(8, .int .i64 (L zan i))], fun i => [], [0, 1, 6, 7], [],
     fun i => L2 L yur l i, fun i => L2 L (fun (l : List CV) (i : Nat) => l.length - i) l i⟩
 | _ => none
theorem yxs {N : Nat} (ih : zao Tryz.prog (yvw N std)) : zao Tryz.prog (yvm N std) := by
 intro xs p r h hp
 unfold yvm at h
 simp only at h
 split at h
 rotate_left
 · cases h
 rename_i x
 cases h
 obtain ⟨ho, hz⟩ := hp
 refine yvz ho ?_
 have hz : zs7 N (rdL x) := hz
 show za9 _ _ _ (.int .i64 (yhs (rdL x)))
 generalize rdL x = l at hz |-
 refine za8 (T := tt) (S := fun L => zad [yvw N L]) (lo := fun L => ifA L l) (lb := noA) 5 (fn := Tryz.f194) (xs := fun L => [cvL L l, .fn 168 [] []]) rfl rfl (by kernel_rfl) (by kernel_rfl) rfl zab
   (za1 ⟨ih, trivial⟩) (by kernel_rfl) ?_
 intro L P' Q' hL hP hQ
 (cbv; try simp only [syT, true_and, and_true])
 refine ⟨⟨0, ?_⟩, fun i hi => ?_⟩
 · (cbv; try simp only [syT, true_and, and_true])
   (subst hL; subst hQ; simp only [L2, L3, std] at *; try simp only [syS, reduceCtorEq, Int.reduceToNat, Int.reduceAdd, Int.reduceSub] at *)
   exact ⟨Nat.zero_le _, fun j hj => by omega⟩
 · cbv at hi
   (cbv; try simp only [syT, true_and, and_true])
   refine ⟨fun hlt => ⟨?_, ⟨?_, ?_⟩, fun hb => ?_, fun hb => ⟨i + 1, ?_⟩⟩, fun hge => ?_⟩
   · (subst hL; subst hQ; simp only [L2, L3, std] at *; try simp only [syS, reduceCtorEq, Int.reduceToNat, Int.reduceAdd, Int.reduceSub] at *)
     omega
   · (subst hL; subst hQ; simp only [L2, L3, std] at *; try simp only [syS, reduceCtorEq, Int.reduceToNat, Int.reduceAdd, Int.reduceSub] at *)
     exact (zky _).2
   · (subst hL; subst hQ; simp only [L2, L3, std] at *; try simp only [syS, reduceCtorEq, Int.reduceToNat, Int.reduceAdd, Int.reduceSub] at *)
     rw [zdj]
     exact zv4 hz (by have : lenL l = l.length := rfl; omega)
   · (subst hL; subst hQ; simp only [L2, L3, std] at *; try simp only [syS, reduceCtorEq, Int.reduceToNat, Int.reduceAdd, Int.reduceSub] at *)
     rw [zbv] at hb
     exact (yo4 (by have : lenL l = l.length := rfl; omega) hi.2 hb).symm
   · (cbv; try simp only [syT, true_and, and_true])
     (subst hL; subst hQ; simp only [L2, L3, std] at *; try simp only [syS, reduceCtorEq, Int.reduceToNat, Int.reduceAdd, Int.reduceSub] at *)
     rw [zbv] at hb
     have : lenL l = l.length := rfl
     have := zn5 l
     have h1 := hz.1
     have h2 := hz.2
     refine ⟨by omega, ⟨by omega, fun j hj => ?_⟩, by omega⟩
     by_cases e : j = i
     · rw [e]; exact hb
     · exact hi.2 j (by omega)
   · (subst hL; subst hQ; simp only [L2, L3, std] at *; try simp only [syS, reduceCtorEq, Int.reduceToNat, Int.reduceAdd, Int.reduceSub] at *)
     have : lenL l = l.length := rfl
     exact (yhr fun j hj => hi.2 j (by omega)).symm
theorem cf_of {N : Nat} (ih : zao Tryz.prog (yvm N std)) : zao Tryz.prog (cf_s N std) := by
 intro xs p r h hp
 unfold cf_s at h
 simp only at h
 split at h
 rotate_left
 · cases h
 rename_i x
 cases h
 obtain ⟨ho, hz⟩ := hp
 refine yvz ho ?_
 have hz : zs7 N (rdL x) := hz
 show za9 _ _ _ (.bool (not (zdf (rdL x))))
 generalize rdL x = l at hz |-
 refine za8 (xs := fun L => [cvL L l, .fn 168 [] []]) (T := tt) (S := fun L => zad [yvm N L]) (lo := noA) (lb := noA) 5 (fn := Tryz.f167) rfl rfl (by kernel_rfl) (by kernel_rfl) rfl zab (za1 ⟨ih, trivial⟩) (by kernel_rfl) ?_
 intro L P' Q' hL hP hQ
 (cbv; try simp only [syT, true_and, and_true])
 (subst hL; subst hQ; simp only [L2, L3, std] at *; try simp only [syS, reduceCtorEq, Int.reduceToNat, Int.reduceAdd, Int.reduceSub] at *)
 rw [rdl]
 refine ⟨⟨okl l, hz⟩, ?_⟩
 have := yo3 l
 cases hb : zdf l with
 | true =>
   rw [hb] at this
   simp only [Bool.true_eq_false, eq_iff_iff, iff_false] at this
   have h : ile 0 (yhs l) = false := by rw [ytc]; exact this
   rw [h]; rfl
 | false =>
   rw [hb] at this
   simp only [eq_iff_iff, iff_true] at this
   simpa [ile] using this
theorem yef : ∀ N, zao Tryz.prog (znm N std) := by
 intro N
 induction N with
 | zero =>
   intro xs p r h hp
   unfold znm at h
   simp only at h
   split at h
   · rename_i k n s x
     cases h
     have h1 : sizeC (mkV std k n s x) <= 0 := hp.2.1
     have := zeh (mkV std k n s x)
     omega
   · cases h
 | succ N ih =>
   intro xs p r h hp
   unfold znm at h
   simp only at h
   split at h
   rotate_left
   · cases h
   rename_i k n s x
   cases h
   obtain ⟨ho, hz⟩ := hp
   refine yvy ho ?_
   rw [show mkV std k n s x = .mk k n s (rdL x) from rfl] at hz |-
   generalize rdL x = l at hz |-
   have hz : zpz (N + 1) (.mk k n s l) := hz
   refine za8 (T := tt) (S := fun L => zad [cf_s N L]) (lo := noA) (lb := noA) 5 (fn := Tryz.f122) (xs := fun L => [.agg [.int .i64 k, .int .u64 n, .str s, cvL L l]]) rfl rfl (by kernel_rfl) (by kernel_rfl) rfl zab
     (za1 ⟨cf_of (yxs (b1_of ih)), trivial⟩) (by kernel_rfl) ?_
   intro L P' Q' hL hP hQ
   (cbv; try simp only [syT, true_and, and_true])
   (subst hL; subst hQ; simp only [L2, L3, std] at *; try simp only [syS, reduceCtorEq, Int.reduceToNat, Int.reduceAdd, Int.reduceSub] at *)
   simp only [rdl, yxh]
   rw [zcb] at hz
   rw [zew]
   by_cases h1 : k = 1
   · simp [h1]
     exact ⟨fun a _ => a, fun a b => absurd b a⟩
   · by_cases h2 : k = 2
     · simp [h2]
       exact ⟨fun a _ => a, fun a b => absurd b a⟩
     · by_cases h3 : k = 3
       · simp [h3]
         refine ⟨fun h4 => ⟨fun h5 => ⟨⟨okl l, hz.1⟩, by simp [h4, h5]⟩, fun h5 => by simp [h5]⟩, fun h4 => by simp [h4]⟩
       · simp [h1, h2, h3]
theorem zmp : ∀ (k n : Nat), n < 128 ^ (k + 1) -> (zdc n).length <= k + 1
 | 0, n, h => by rw [zb9 (by omega)]; simp
 | k + 1, n, h => by
   by_cases h1 : n < 128
   · rw [zb9 h1]; simp
   · rw [zgd (by omega), List.length_cons]
     have := zmp k (n / 128) (by rw [Nat.div_lt_iff_lt_mul (by omega)]; rw [Nat.pow_succ] at h; exact h)
     omega
theorem zij {n : Int} (h : zcl n) : (zaw n).length <= 10 := zmp 9 n.toNat (by
 have := h.2
 have := h.1
 rw [show (128 : Nat) ^ (9 + 1) = 1180591620717411303424 from by decide]
 omega)
mutual
def wfV : CV -> Prop
 | .mk _ n s l => zcl n /\ s.length <= 9223372036854775807 /\ zu7 l
def zu7 : List CV -> Prop
 | [] => True
 | v :: l => wfV v /\ zu7 l
end
theorem yjg : ∀ {l : List CV} {i : Nat}, zu7 l -> i < l.length -> wfV (zdi l i)
 | [], i, _, h => by simp at h
 | v :: l, 0, w, _ => by rw [zu7] at w; exact w.1
 | v :: l, i + 1, w, h => by rw [zu7] at w; exact yjg (l := l) w.2 (by simpa using h)
theorem zig (l : List CV) : ∀ i, (zgu l i).length <= (zav l).length := by
 intro i
 have := zih (l.take i) (l.drop i)
 rw [List.take_append_drop] at this
 rw [this, List.length_append, zgu]; omega
theorem zai (k n : Int) (s : List UInt8) (l : List CV) : zbn (.mk k n s l) = zfo k ++ if k = 1 then zaw n else if k = 2 then zaw s.length ++ s else zaw l.length ++ zav l := by rw [zbn]
def zzr (v : CV) : Prop := wfV v /\ (zbn v).length <= 90000000
theorem zzi {k n : Int} {s : List UInt8} {l : List CV} : zzr (.mk k n s l) = ((zcl n /\ s.length <= 9223372036854775807 /\ zu7 l) /\ (zbn (.mk k n s l)).length <= 90000000) := by
 unfold zzr; rw [wfV]
theorem zhh {x : Int} (h : 0 <= x) (h1 : x < 18446744073709551616) : x % 18446744073709551616 = x := Int.emod_eq_of_lt h h1
theorem zid {k n : Int} {s : List UInt8} {l : List CV} (h : wfV (.mk k n s l)) : (s.length : Int) % 18446744073709551616 = s.length := by
 rw [wfV] at h
 exact zhh (by omega) (by omega)
theorem zlv {N : Nat} {k n : Int} {s : List UInt8} {l : List CV} (h : zpz (N + 1) (.mk k n s l)) : zcl ((l.length : Nat) : Int) := by
 rw [zcb] at h
 have := zn5 l
 have h1 := h.1.1
 have h2 := h.1.2
 exact ⟨by omega, by omega⟩
theorem zie {N : Nat} {k n : Int} {s : List UInt8} {l : List CV} (h : zpz (N + 1) (.mk k n s l)) : ((lenL l : Nat) : Int) % 18446744073709551616 = ((l.length : Nat) : Int) := by
 have := zlv h
 exact zhh this.1 this.2
theorem yjh {k n : Int} {s : List UInt8} {l : List CV} (h : zzr (.mk k n s l)) (h1 : k ≠ 1) (h2 : k ≠ 2) {i : Nat} (hi : i < l.length) : zzr (zdi l i) := by
 rw [zzi] at h
 refine ⟨yjg h.1.2.2 hi, ?_⟩
 have h3 := h.2
 have h4 := zds hi
 have h5 := zig l (i + 1)
 rw [h4, List.length_append] at h5
 rw [zai, if_neg h1, if_neg h2] at h3
 simp only [List.length_append] at h3
 omega
def zo8 (b : List UInt8) (k : Int) (l : List CV) (i : Nat) : List UInt8 := b ++ zfo k ++ zaw l.length ++ zgu l i
def putA (L : zaa) (b : List UInt8) (k : Int) (l : List CV) : Nat -> St -> Option Ann := fun id s => match id with
 | 1 => some ⟨Nat, fun i => [(23, .int .i64 (L zan i))], fun i => [(500000, .box 172 [.ref 500000 0, .sl 901 1 0 (L lenN (L (L3 L zo8 b k l) i))]), (901, .row 5 1 (L lenN (L (L3 L zo8 b k l) i)) (fun j _ => .int .u8 (L2 L za4 (L (L3 L zo8 b k l) i) j)))], [0, 21, 22], [],
     fun i => L2 L (fun (l : List CV) i => i <= l.length) l i, fun i => L2 L (fun (l : List CV) (i : Nat) => l.length - i) l i⟩
 | _ => none
def zqa (N : Nat) (L : zaa) : zma := (124, fun raw ob => match raw with
 | [.ref id 0, .agg [.int .i64 k, .int .u64 n, .str s, x]] => match yed L ob id with
   | some none => some ⟨[.ref 500000 0, .agg [.int .i64 k, .int .u64 n, .str s, x]], yqy, L okL x /\ L2 L zpz N (mkV L k n s x) /\ L zzr (mkV L k n s x), .tup [], ztw L (L zbn (mkV L k n s x))⟩
   | some (some l) => some ⟨[.ref 500000 0, .agg [.int .i64 k, .int .u64 n, .str s, x]], bld L l, L okL x /\ L2 L zpz N (mkV L k n s x) /\ L zzr (mkV L k n s x) /\ L2 L zf5 l (L zbn (mkV L k n s x)), .tup [], ztw L (L2 L zac l (L zbn (mkV L k n s x)))⟩
   | none => none
 | _ => none)
theorem yry {b : List UInt8} {k n : Int} {s : List UInt8} {l : List CV} (h : zf5 b (zbn (.mk k n s l))) : zf5 b (zc5 (k % 256)) := by
 rw [zai] at h
 unfold zf5 at h |-
 have : (zfo k).length = 1 := rfl
 have : (zc5 (k % 256)).length = 1 := rfl
 rw [List.length_append] at h
 omega
theorem zun {b q : List UInt8} {k : Int} (h : zf5 b (zfo k ++ q)) : zf5 (zac b (zc5 (k % 256))) q := by
 unfold zf5 zac at *
 have : (zfo k).length = 1 := rfl
 have : (zc5 (k % 256)).length = 1 := rfl
 rw [List.length_append] at h |-
 omega
theorem yjt {b q r : List UInt8} {k : Int} (h : zf5 b (zfo k ++ (q ++ r))) : zf5 (zac b (zc5 (k % 256))) q := by
 unfold zf5 zac at *
 have : (zfo k).length = 1 := rfl
 have : (zc5 (k % 256)).length = 1 := rfl
 rw [List.length_append, List.length_append] at h
 rw [List.length_append]
 omega
theorem zul {x y : List UInt8} (h : x = y) : (lenN x = lenN y /\ ∀ i j : Nat, i < lenN y -> j < 1 -> AV.int .u8 (za4 x i) = AV.int .u8 (za4 y i)) /\ lenN x = lenN y := by
 subst h; exact ⟨⟨rfl, fun _ _ _ _ => rfl⟩, rfl⟩
theorem yjp {b q t : List UInt8} {k : Int} (h : t = zfo k ++ q) : (lenN (zac (zac b (zc5 (k % 256))) q) = lenN (zac b t) /\ ∀ i j : Nat, i < lenN (zac b t) -> j < 1 -> AV.int .u8 (za4 (zac (zac b (zc5 (k % 256))) q) i) = AV.int .u8 (za4 (zac b t) i)) /\ lenN (zac (zac b (zc5 (k % 256))) q) = lenN (zac b t) :=
 zul (by rw [h]; unfold zac; rw [List.append_assoc]; rfl)
theorem yjq {q t : List UInt8} {k : Int} (h : t = zfo k ++ q) : (lenN (zac (zc5 (k % 256)) q) = lenN t /\ ∀ i j : Nat, i < lenN t -> j < 1 -> AV.int .u8 (za4 (zac (zc5 (k % 256)) q) i) = AV.int .u8 (za4 t i)) /\ lenN (zac (zc5 (k % 256)) q) = lenN t :=
 zul (by rw [h]; rfl)
theorem ymi {N : Nat} (ih : zf0 Tryz.prog (zqa N std)) (b : List UInt8) (k n : Int) (s : List UInt8) (l : List CV) (hz : zpz (N + 1) (.mk k n s l)) (hw : zzr (.mk k n s l)) (hb : zf5 b (zbn (.mk k n s l))) :
   zbz Tryz.prog 124 [.ref 500000 0, .agg [.int .i64 k, .int .u64 n, .str s, cvL std l]] (bld std b) (.tup []) (ztw std (zac b (zbn (.mk k n s l)))) := by
 refine zbi (T := tt) (S := fun L => zc6 [zkt L] [yv3 L, yv1 L, zqa N L]) (lo := fun L => putA L b k l) (lb := noA) 5 (fn := Tryz.f124) (xs := fun L => [.ref 500000 0, .agg [.int .i64 k, .int .u64 n, .str s, cvL L l]]) (rts := fun _ => []) (O := fun L => bld L b) (O1 := fun L => ztw L (L2 L zac b (L zbn (.mk k n s l))))
   rfl rfl (by kernel_rfl) (by kernel_rfl) (by kernel_rfl) zab (zaq ⟨zii, trivial⟩ ⟨zzj, zz9, ih, trivial⟩) (by kernel_rfl) ?_
 intro L P' Q' hL hP hQ
 have hB : ∀ b : List UInt8, L (L zb8 (L lenN b)) (fun i => (AV.int .u8 (L2 L za4 b i)).toI) = b := by subst hL; exact zev
 (cbv; try simp only [syT, true_and, and_true])
 simp only [hB]
 refine ⟨⟨trivial, fun _ _ _ _ => trivial⟩, trivial, ⟨?_, ?_⟩, fun h1 => ⟨?_, ⟨trivial, fun _ _ _ _ => trivial⟩, trivial, ?_, ?_⟩, fun h1 => ⟨fun h2 => ⟨?_, ?_, ⟨trivial, fun _ _ _ _ => trivial⟩, trivial, ?_, ?_⟩, fun h2 => ⟨?_, ⟨trivial, fun _ _ _ _ => trivial⟩, trivial, ?_, ⟨0, ?_⟩, fun i hi => ?_⟩⟩⟩
 · (subst hL; subst hQ; simp only [L2, L3, std] at *; try simp only [syS, reduceCtorEq, Int.reduceToNat, Int.reduceAdd, Int.reduceSub] at *)
   exact ⟨Int.emod_nonneg _ (by omega), Int.emod_lt_of_pos _ (by omega)⟩
 · (subst hL; subst hQ; simp only [L2, L3, std] at *; try simp only [syS, reduceCtorEq, Int.reduceToNat, Int.reduceAdd, Int.reduceSub] at *)
   exact yry hb
 · (subst hL; subst hQ; simp only [L2, L3, std] at *; try simp only [syS, reduceCtorEq, Int.reduceToNat, Int.reduceAdd, Int.reduceSub] at *)
   rw [zzi] at hw
   exact hw.1.1
 · (subst hL; subst hQ; simp only [L2, L3, std] at *; try simp only [syS, reduceCtorEq, Int.reduceToNat, Int.reduceAdd, Int.reduceSub] at *)
   rw [zai, if_pos h1] at hb
   exact zun hb
 · (subst hL; subst hQ; simp only [L2, L3, std] at *; try simp only [syS, reduceCtorEq, Int.reduceToNat, Int.reduceAdd, Int.reduceSub] at *)
   exact yjp (by rw [zai, if_pos h1])
 · (subst hL; subst hQ; simp only [L2, L3, std] at *; try simp only [syS, reduceCtorEq, Int.reduceToNat, Int.reduceAdd, Int.reduceSub] at *)
   rw [zzi] at hw
   rw [zhh (by omega) (by omega)]
   exact ⟨by omega, by omega⟩
 · (subst hL; subst hQ; simp only [L2, L3, std] at *; try simp only [syS, reduceCtorEq, Int.reduceToNat, Int.reduceAdd, Int.reduceSub] at *)
   rw [zid hw.1]
   have h3 := hw.2
   rw [zai, if_neg h1, if_pos h2] at h3
   simp at h3 |-
   omega
 · (subst hL; subst hQ; simp only [L2, L3, std] at *; try simp only [syS, reduceCtorEq, Int.reduceToNat, Int.reduceAdd, Int.reduceSub] at *)
   rw [zid hw.1]
   rw [zai, if_neg h1, if_pos h2] at hb
   exact zun hb
 · (subst hL; subst hQ; simp only [L2, L3, std] at *; try simp only [syS, reduceCtorEq, Int.reduceToNat, Int.reduceAdd, Int.reduceSub] at *)
   rw [zid hw.1]
   exact yjp (by rw [zai, if_neg h1, if_pos h2])
 · (subst hL; subst hQ; simp only [L2, L3, std] at *; try simp only [syS, reduceCtorEq, Int.reduceToNat, Int.reduceAdd, Int.reduceSub] at *)
   rw [zie hz]
   exact zlv hz
 · (subst hL; subst hQ; simp only [L2, L3, std] at *; try simp only [syS, reduceCtorEq, Int.reduceToNat, Int.reduceAdd, Int.reduceSub] at *)
   rw [zie hz]
   rw [zai, if_neg h1, if_neg h2] at hb
   exact yjt hb
 · (cbv; try simp only [syT, true_and, and_true])
   (subst hL; subst hQ; simp only [L2, L3, std] at *; try simp only [syS, reduceCtorEq, Int.reduceToNat, Int.reduceAdd, Int.reduceSub] at *)
   rw [zie hz]
   have e : zac (zac b (zc5 (k % 256))) (zaw ((l.length : Nat) : Int)) = zo8 b k l 0 := by
     rw [zo8, zgu, List.take_zero, zav, List.append_nil]; rfl
   rw [e]
   exact ⟨⟨rfl, fun _ _ _ _ => rfl⟩, rfl, Nat.zero_le _⟩
 · cbv at hi
   (cbv; try simp only [syT, true_and, and_true])
   simp only [hB]
   refine ⟨fun hlt => ⟨?_, ⟨trivial, fun _ _ _ _ => trivial⟩, trivial, fun _ _ _ _ => trivial, ⟨?_, ?_, ?_, ?_⟩, ⟨i + 1, ?_⟩⟩, fun hge => ?_⟩
   · (subst hL; subst hQ; simp only [L2, L3, std] at *; try simp only [syS, reduceCtorEq, Int.reduceToNat, Int.reduceAdd, Int.reduceSub] at *)
     omega
   · (subst hL; subst hQ; simp only [L2, L3, std] at *; try simp only [syS, reduceCtorEq, Int.reduceToNat, Int.reduceAdd, Int.reduceSub] at *)
     exact (zky _).2
   · (subst hL; subst hQ; simp only [L2, L3, std] at *; try simp only [syS, reduceCtorEq, Int.reduceToNat, Int.reduceAdd, Int.reduceSub] at *)
     rw [zdj]
     rw [zcb] at hz
     exact zv4 hz.1 (by have : lenL l = l.length := rfl; omega)
   · (subst hL; subst hQ; simp only [L2, L3, std] at *; try simp only [syS, reduceCtorEq, Int.reduceToNat, Int.reduceAdd, Int.reduceSub] at *)
     rw [zbv]
     exact yjh hw (by omega) (by omega) (by have : lenL l = l.length := rfl; omega)
   · (subst hL; subst hQ; simp only [L2, L3, std] at *; try simp only [syS, reduceCtorEq, Int.reduceToNat, Int.reduceAdd, Int.reduceSub] at *)
     rw [zbv]
     have h4 := zds (l := l) (i := i) (by have : lenL l = l.length := rfl; omega)
     have h5 := zig l (i + 1)
     rw [h4, List.length_append] at h5
     rw [zai, if_neg h1, if_neg h2] at hb
     unfold zf5 at hb |-
     simp only [List.length_append, zo8] at hb |-
     omega
   · (cbv; try simp only [syT, true_and, and_true])
     (subst hL; subst hQ; simp only [L2, L3, std] at *; try simp only [syS, reduceCtorEq, Int.reduceToNat, Int.reduceAdd, Int.reduceSub] at *)
     have : lenL l = l.length := rfl
     have := zn5 l
     rw [zcb] at hz
     have h4 := hz.1.1
     have h5 := hz.1.2
     rw [zbv]
     have e : zac (zo8 b k l i) (zbn (zdi l i)) = zo8 b k l (i + 1) := by
       rw [zo8, zo8, zds (by omega)]; unfold zac; simp only [List.append_assoc]
     rw [e]
     exact ⟨⟨rfl, fun _ _ _ _ => rfl⟩, rfl, by omega, by omega, by omega⟩
   · (subst hL; subst hQ; simp only [L2, L3, std] at *; try simp only [syS, reduceCtorEq, Int.reduceToNat, Int.reduceAdd, Int.reduceSub] at *)
     have : lenL l = l.length := rfl
     have hil : i = l.length := by omega
     exact zul (by rw [zai, if_neg h1, if_neg h2, zo8, hil, zgu, List.take_length]; unfold zac; simp only [List.append_assoc])
theorem ymj {N : Nat} (ih : zf0 Tryz.prog (zqa N std)) (k n : Int) (s : List UInt8) (l : List CV) (hz : zpz (N + 1) (.mk k n s l)) (hw : zzr (.mk k n s l)) :
   zbz Tryz.prog 124 [.ref 500000 0, .agg [.int .i64 k, .int .u64 n, .str s, cvL std l]] yqy (.tup []) (ztw std (zbn (.mk k n s l))) := by
 refine zbi (T := tt) (S := fun L => zc6 [zkt L] [yv3 L, yv1 L, zqa N L]) (lo := fun L => putA L [] k l) (lb := noA) 5 (fn := Tryz.f124) (xs := fun L => [.ref 500000 0, .agg [.int .i64 k, .int .u64 n, .str s, cvL L l]]) (rts := fun _ => []) (O := fun L => yqy) (O1 := fun L => ztw L (L zbn (.mk k n s l)))
   rfl rfl (by kernel_rfl) (by kernel_rfl) (by kernel_rfl) zab (zaq ⟨zii, trivial⟩ ⟨zzj, zz9, ih, trivial⟩) (by kernel_rfl) ?_
 intro L P' Q' hL hP hQ
 have hb : zf5 [] (zbn (.mk k n s l)) := by have := hw.2; unfold zf5; simp; omega
 have hB : ∀ b : List UInt8, L (L zb8 (L lenN b)) (fun i => (AV.int .u8 (L2 L za4 b i)).toI) = b := by subst hL; exact zev
 (cbv; try simp only [syT, true_and, and_true])
 simp only [hB]
 refine ⟨?_, fun h1 => ⟨?_, ⟨trivial, fun _ _ _ _ => trivial⟩, trivial, ?_, ?_⟩, fun h1 => ⟨fun h2 => ⟨?_, ?_, ⟨trivial, fun _ _ _ _ => trivial⟩, trivial, ?_, ?_⟩, fun h2 => ⟨?_, ⟨trivial, fun _ _ _ _ => trivial⟩, trivial, ?_, ⟨0, ?_⟩, fun i hi => ?_⟩⟩⟩
 · (subst hL; subst hQ; simp only [L2, L3, std] at *; try simp only [syS, reduceCtorEq, Int.reduceToNat, Int.reduceAdd, Int.reduceSub] at *)
   exact ⟨Int.emod_nonneg _ (by omega), Int.emod_lt_of_pos _ (by omega)⟩
 · (subst hL; subst hQ; simp only [L2, L3, std] at *; try simp only [syS, reduceCtorEq, Int.reduceToNat, Int.reduceAdd, Int.reduceSub] at *)
   rw [zzi] at hw
   exact hw.1.1
 · (subst hL; subst hQ; simp only [L2, L3, std] at *; try simp only [syS, reduceCtorEq, Int.reduceToNat, Int.reduceAdd, Int.reduceSub] at *)
   rw [zai, if_pos h1] at hb
   exact zun hb
 · (subst hL; subst hQ; simp only [L2, L3, std] at *; try simp only [syS, reduceCtorEq, Int.reduceToNat, Int.reduceAdd, Int.reduceSub] at *)
   exact yjq (by rw [zai, if_pos h1])
 · (subst hL; subst hQ; simp only [L2, L3, std] at *; try simp only [syS, reduceCtorEq, Int.reduceToNat, Int.reduceAdd, Int.reduceSub] at *)
   rw [zzi] at hw
   rw [zhh (by omega) (by omega)]
   exact ⟨by omega, by omega⟩
 · (subst hL; subst hQ; simp only [L2, L3, std] at *; try simp only [syS, reduceCtorEq, Int.reduceToNat, Int.reduceAdd, Int.reduceSub] at *)
   rw [zid hw.1]
   have h3 := hw.2
   rw [zai, if_neg h1, if_pos h2] at h3
   simp at h3 |-
   omega
 · (subst hL; subst hQ; simp only [L2, L3, std] at *; try simp only [syS, reduceCtorEq, Int.reduceToNat, Int.reduceAdd, Int.reduceSub] at *)
   rw [zid hw.1]
   rw [zai, if_neg h1, if_pos h2] at hb
   exact zun hb
 · (subst hL; subst hQ; simp only [L2, L3, std] at *; try simp only [syS, reduceCtorEq, Int.reduceToNat, Int.reduceAdd, Int.reduceSub] at *)
   rw [zid hw.1]
   exact yjq (by rw [zai, if_neg h1, if_pos h2])
 · (subst hL; subst hQ; simp only [L2, L3, std] at *; try simp only [syS, reduceCtorEq, Int.reduceToNat, Int.reduceAdd, Int.reduceSub] at *)
   rw [zie hz]
   exact zlv hz
 · (subst hL; subst hQ; simp only [L2, L3, std] at *; try simp only [syS, reduceCtorEq, Int.reduceToNat, Int.reduceAdd, Int.reduceSub] at *)
   rw [zie hz]
   rw [zai, if_neg h1, if_neg h2] at hb
   exact yjt hb
 · (cbv; try simp only [syT, true_and, and_true])
   (subst hL; subst hQ; simp only [L2, L3, std] at *; try simp only [syS, reduceCtorEq, Int.reduceToNat, Int.reduceAdd, Int.reduceSub] at *)
   rw [zie hz]
   have e : zac (zc5 (k % 256)) (zaw ((l.length : Nat) : Int)) = zo8 [] k l 0 := by
     rw [zo8, zgu, List.take_zero, zav, List.append_nil]; rfl
   rw [e]
   exact ⟨⟨rfl, fun _ _ _ _ => rfl⟩, rfl, Nat.zero_le _⟩
 · cbv at hi
   (cbv; try simp only [syT, true_and, and_true])
   simp only [hB]
   refine ⟨fun hlt => ⟨?_, ⟨trivial, fun _ _ _ _ => trivial⟩, trivial, fun _ _ _ _ => trivial, ⟨?_, ?_, ?_, ?_⟩, ⟨i + 1, ?_⟩⟩, fun hge => ?_⟩
   · (subst hL; subst hQ; simp only [L2, L3, std] at *; try simp only [syS, reduceCtorEq, Int.reduceToNat, Int.reduceAdd, Int.reduceSub] at *)
     omega
   · (subst hL; subst hQ; simp only [L2, L3, std] at *; try simp only [syS, reduceCtorEq, Int.reduceToNat, Int.reduceAdd, Int.reduceSub] at *)
     exact (zky _).2
   · (subst hL; subst hQ; simp only [L2, L3, std] at *; try simp only [syS, reduceCtorEq, Int.reduceToNat, Int.reduceAdd, Int.reduceSub] at *)
     rw [zdj]
     rw [zcb] at hz
     exact zv4 hz.1 (by have : lenL l = l.length := rfl; omega)
   · (subst hL; subst hQ; simp only [L2, L3, std] at *; try simp only [syS, reduceCtorEq, Int.reduceToNat, Int.reduceAdd, Int.reduceSub] at *)
     rw [zbv]
     exact yjh hw (by omega) (by omega) (by have : lenL l = l.length := rfl; omega)
   · (subst hL; subst hQ; simp only [L2, L3, std] at *; try simp only [syS, reduceCtorEq, Int.reduceToNat, Int.reduceAdd, Int.reduceSub] at *)
     rw [zbv]
     have h4 := zds (l := l) (i := i) (by have : lenL l = l.length := rfl; omega)
     have h5 := zig l (i + 1)
     rw [h4, List.length_append] at h5
     rw [zai, if_neg h1, if_neg h2] at hb
     unfold zf5 at hb |-
     simp only [List.length_append, zo8] at hb |-
     omega
   · (cbv; try simp only [syT, true_and, and_true])
     (subst hL; subst hQ; simp only [L2, L3, std] at *; try simp only [syS, reduceCtorEq, Int.reduceToNat, Int.reduceAdd, Int.reduceSub] at *)
     have : lenL l = l.length := rfl
     have := zn5 l
     rw [zcb] at hz
     have h4 := hz.1.1
     have h5 := hz.1.2
     rw [zbv]
     have e : zac (zo8 [] k l i) (zbn (zdi l i)) = zo8 [] k l (i + 1) := by
       rw [zo8, zo8, zds (by omega)]; unfold zac; simp only [List.append_assoc]
     rw [e]
     exact ⟨⟨rfl, fun _ _ _ _ => rfl⟩, rfl, by omega, by omega, by omega⟩
   · (subst hL; subst hQ; simp only [L2, L3, std] at *; try simp only [syS, reduceCtorEq, Int.reduceToNat, Int.reduceAdd, Int.reduceSub] at *)
     have : lenL l = l.length := rfl
     have hil : i = l.length := by omega
     exact zul (by rw [zai, if_neg h1, if_neg h2, zo8, hil, zgu, List.take_length, List.nil_append, List.append_assoc])
theorem zop {P : Program} {f : FuncId} {xs ys : List AV} {O O1 : List (Nat × Ob)} {r : AV} (e : ∀ h D μ vs, RL h D μ xs vs -> RL h D μ ys vs) (hm : zbz P f ys O r O1) : zbz P f xs O r O1 :=
 fun D w μ vs hD hx => hm D w μ vs hD (e _ _ _ _ hx)
theorem ydm : ∀ N, zf0 Tryz.prog (zqa N std) := by
 intro N
 induction N with
 | zero =>
   intro raw ob T hT hp
   unfold zqa at hT
   simp only at hT
   split at hT
   · rename_i k n s x
     split at hT <;> cases hT
     · have h1 : sizeC (mkV std k n s x) <= 0 := hp.2.1.1
       have := zeh (mkV std k n s x)
       omega
     · have h1 : sizeC (mkV std k n s x) <= 0 := hp.2.1.1
       have := zeh (mkV std k n s x)
       omega
   · cases hT
 | succ N ih =>
   intro raw ob T hT hp
   unfold zqa at hT
   simp only at hT
   split at hT
   rotate_left
   · cases hT
   rename_i k n s x
   split at hT <;> cases hT
   · refine zop (fun h D μ vs hr => yrz (fun v => yl0 hp.1) hr) ?_
     exact ymj ih k n s (rdL x) hp.2.1 hp.2.2
   · refine zop (fun h D μ vs hr => yrz (fun v => yl0 hp.1) hr) ?_
     exact ymi ih _ k n s (rdL x) hp.2.1 hp.2.2.1 hp.2.2.2
theorem zu3 {P : Program} {f : FuncId} {sz n : Nat} {get : Nat -> Nat -> AV} {r : AV} (h0 : n = 0 -> za9 P f [.nils] r) (h1 : n = 0 -> za9 P f [.emp] r) (h2 : 0 < n -> za9 P f [.lst sz n get] r) : za9 P f [.lst sz n get] r := by
 by_cases e : n = 0
 · subst e
   intro D w vs hD hx
   obtain ⟨v, hv⟩ : ∃ v, vs.toList = [v] := List.length_eq_one_iff.1 (by simpa using hx.1.symm)
   have : vs = #[v] := by rw [<- Array.toArray_toList (xs := vs), hv]
   subst this
   have hr := hx.2 0 _ _ rfl rfl
   have one : ∀ y, R w.heap D zam y v -> RL w.heap D zam [y] #[v] := fun y r => ⟨rfl, fun i x u hx hu => by
     match i with
     | 0 => cases hx; cases hu; exact r
     | i + 1 => simp at hx⟩
   cases hr with
   | lst0 _ _ a cap hn =>
     cases a with
     | none =>
       obtain rfl := hn rfl
       exact h0 rfl D w _ hD (one _ .nils)
     | some a => exact h1 rfl D w _ hD (one _ (.emp a cap))
   | lst _ _ _ b o cap vs' hD' hc hv' h1' hr' => exact h1 rfl D w _ hD (one _ (.emp _ cap))
 · exact h2 (by omega)
def zfw (n : Int) : CV := .mk 1 n [] []
def zif (s : List UInt8) : CV := .mk 2 0 s []
def zd3 (l : List CV) : CV := .mk 3 0 [] l
def zxj (L : zaa) : zb4 := (77, fun xs => match xs with | [.int .u64 n] => some (True, cvA L (L zfw n)) | _ => none)
def zwe (L : zaa) : zb4 := (128, fun xs => match xs with | [.str s] => some (True, cvA L (L zif s)) | _ => none)
theorem zk0 : zao Tryz.prog (zxj std) := by
 intro xs p r h hp
 unfold zxj at h
 simp only at h
 split at h
 rotate_left
 · cases h
 rename_i n
 cases h
 refine za6 (T := tt) (S := noS) (lo := noA) (lb := noA) 5 (fn := Tryz.f77) rfl rfl (by kernel_rfl) (by kernel_rfl) rfl zab (zbh _) (by kernel_rfl) ?_
 (intro L P1 Q1 hL hP hQ; cbv; subst hL; simp only [L2, L3, std, syT]; subst hQ)
 show zgw (.agg [.int .i64 1, .int .u64 n, .str [], .lst 4 0 (zkd (zfw n))]) _
 simp [zg7, zch, zdp, zgl, zc1]
theorem zjv : zao Tryz.prog (zwe std) := by
 intro xs p r h hp
 unfold zwe at h
 simp only at h
 split at h
 rotate_left
 · cases h
 rename_i n
 cases h
 refine za6 (T := tt) (S := noS) (lo := noA) (lb := noA) 5 (fn := Tryz.f128) rfl rfl (by kernel_rfl) (by kernel_rfl) rfl zab (zbh _) (by kernel_rfl) ?_
 (intro L P1 Q1 hL hP hQ; cbv; subst hL; simp only [L2, L3, std, syT]; subst hQ)
 show zgw (.agg [.int .i64 2, .int .u64 0, .str n, .lst 4 0 (zkd (zif n))]) _
 simp [zg7, zch, zdp, zgl, zc1]
def yc2 (l : List CV) : Prop := l.length <= 1000000
def zto (L : zaa) : zb4 := (127, fun xs => match xs with
 | [x] => some (L okL x /\ L yc2 (L rdL x), .lst 4 (L lenL (L rdL x)) (L zi5 (L rdL x)))
 | _ => none)
theorem zye : zao Tryz.prog (zto std) := by
 intro xs p r h hp
 unfold zto at h
 simp only at h
 split at h
 rotate_left
 · cases h
 rename_i x
 cases h
 obtain ⟨ho, hz⟩ := hp
 refine yvz ho ?_
 have hz : yc2 (rdL x) := hz
 show za9 _ _ [cvL std (rdL x)] (.lst 4 (lenL (rdL x)) (zi5 (rdL x)))
 generalize rdL x = l at hz |-
 refine zu3 (fun h => ?_) (fun h => ?_) (fun h => ?_)
 · refine za6 (T := tt) (S := noS) (lo := noA) (lb := noA) 5 (fn := Tryz.f127) rfl rfl (by kernel_rfl) (by kernel_rfl) rfl zab (zbh _) (by kernel_rfl) ?_
   intro L P' Q' hL hP hQ
   (cbv; try simp only [syT, true_and, and_true])
   (subst hL; subst hQ; simp only [L2, L3, std] at *; try simp only [syS, reduceCtorEq, Int.reduceToNat, Int.reduceAdd, Int.reduceSub] at *)
   exact h.symm
 · refine za6 (T := tt) (S := noS) (lo := noA) (lb := noA) 5 (fn := Tryz.f127) rfl rfl (by kernel_rfl) (by kernel_rfl) rfl zab (zbh _) (by kernel_rfl) ?_
   intro L P' Q' hL hP hQ
   (cbv; try simp only [syT, true_and, and_true])
   (subst hL; subst hQ; simp only [L2, L3, std] at *; try simp only [syS, reduceCtorEq, Int.reduceToNat, Int.reduceAdd, Int.reduceSub] at *)
   exact ⟨by omega, h.symm, fun i j hi => by omega⟩
 · refine za8 (T := tt) (S := noS) (lo := fun _ => noA std) (lb := noA) 5 (fn := Tryz.f127) (xs := fun L => [cvL L l]) rfl rfl (by kernel_rfl) (by kernel_rfl) rfl zab (zbh _) (by kernel_rfl) ?_
   intro L P' Q' hL hP hQ
   (cbv; try simp only [syT, true_and, and_true])
   (subst hL; subst hQ; simp only [L2, L3, std] at *; try simp only [syS, reduceCtorEq, Int.reduceToNat, Int.reduceAdd, Int.reduceSub] at *)
   have h1 : lenL l <= 1000000 := hz
   exact ⟨zm0 h, by omega, fun i j hi hj => by rw [ztn _ _ hj, zbs _ _ _ hi]⟩
def zfk (L : zaa) : zb4 := (76, fun xs => match xs with
 | [x] => some (L okL x /\ L yc2 (L rdL x), cvA L (L zd3 (L rdL x)))
 | _ => none)
theorem zc8 : zao Tryz.prog (zfk std) := by
 intro xs p r h hp
 unfold zfk at h
 simp only at h
 split at h
 rotate_left
 · cases h
 rename_i x
 cases h
 obtain ⟨ho, hz⟩ := hp
 refine yvz ho ?_
 have hz : yc2 (rdL x) := hz
 show za9 _ _ [cvL std (rdL x)] (cvA std (zd3 (rdL x)))
 generalize rdL x = l at hz |-
 refine za8 (T := tt) (S := fun L => zad [zto L]) (lo := fun _ => noA std) (lb := noA) 5 (fn := Tryz.f76) (xs := fun L => [cvL L l]) rfl rfl (by kernel_rfl) (by kernel_rfl) rfl zab (za1 ⟨zye, trivial⟩) (by kernel_rfl) ?_
 intro L P' Q' hL hP hQ
 (cbv; try simp only [syT, true_and, and_true])
 (subst hL; subst hQ; simp only [L2, L3, std] at *; try simp only [syS, reduceCtorEq, Int.reduceToNat, Int.reduceAdd, Int.reduceSub] at *)
 rw [rdl]
 refine ⟨⟨okl l, hz⟩, ?_⟩
 show zgw (.agg [.int .i64 3, .int .u64 0, .str [], .lst 4 (lenL l) (zi5 l)]) _
 simp [zg7, zch, zdp, zgm, zc1]
def zqb (v : CV) : Int := if zew v = true then (if zd7 v > 6 then 8 else if (zbn v).length > 8192 then 5 else 0) else 10
def zx9 (v : CV) : List UInt8 := if zqb v = 0 then zbn v else []
def zw3 (N : Nat) (L : zaa) : zb4 := (75, fun xs => match xs with
 | [.agg [.int .i64 k, .int .u64 n, .str s, x]] => some (L okL x /\ L2 L zpz N (mkV L k n s x) /\ L zzr (mkV L k n s x), .tup [.str (L zx9 (mkV L k n s x)), .int .i64 (L zqb (mkV L k n s x))])
 | _ => none)
theorem znj (N : Nat) : zao Tryz.prog (zw3 N std) := by
 intro xs p r h hp
 unfold zw3 at h
 simp only at h
 split at h
 rotate_left
 · cases h
 rename_i k n s x
 cases h
 obtain ⟨ho, hz, hw⟩ := hp
 refine yvy ho ?_
 rw [show mkV std k n s x = .mk k n s (rdL x) from rfl] at hz hw |-
 generalize rdL x = l at hz hw |-
 have hz : zpz N (.mk k n s l) := hz
 have hw : zzr (.mk k n s l) := hw
 refine za8 (T := tt) (S := fun L => zc6 [znm N L, zre N L] [zqa N L, bl_m L, bs_m L]) (lo := fun _ => noA std) (lb := noA) 5 (fn := Tryz.f75) (xs := fun L => [.agg [.int .i64 k, .int .u64 n, .str s, cvL L l]]) rfl rfl (by kernel_rfl) (by kernel_rfl) rfl zab
   (zaq ⟨yef N, ydg N, trivial⟩ ⟨ydm N, yq4, yq2, trivial⟩) (by kernel_rfl) ?_
 intro L P' Q' hL hP hQ
 have hB : ∀ b : List UInt8, L (L zb8 (L lenN b)) (fun i => (AV.int .u8 (L2 L za4 b i)).toI) = b := by subst hL; exact zev
 (cbv; try simp only [syT, true_and, and_true])
 simp only [hB]
 (subst hL; subst hQ; simp only [L2, L3, std] at *; try simp only [syS, reduceCtorEq, Int.reduceToNat, Int.reduceAdd, Int.reduceSub] at *)
 simp only [rdl, mkl]
 refine ⟨⟨okl l, hz⟩, fun h1 => ?_, fun h1 => ⟨⟨okl l, hz⟩, fun h2 => ?_, fun h2 => ⟨⟨okl l, hz, hw⟩, fun h3 => ?_, fun h3 => ⟨⟨?_, hw.2⟩, ?_⟩⟩⟩⟩
 · simp [zx9, zqb, h1]
 · simp [zx9, zqb, h1, h2]
 · have h4 : ¬ 6 < zd7 (.mk k n s l) := by omega
   have h5 : 8192 < (zbn (.mk k n s l)).length := by omega
   simp [zx9, zqb, h1, h4, h5]
 · rw [zai]; simp [zfo]
 · have h4 : ¬ 6 < zd7 (.mk k n s l) := by omega
   have h5 : ¬ 8192 < (zbn (.mk k n s l)).length := by omega
   simp [zx9, zqb, h1, h4, h5]
theorem one1 (v : CV) : rdL (.lst 4 1 fun i j => zbm .dead [.int .i64 v.kd, .int .u64 v.nn, .str v.tx, .lst 4 (zm8 v) (zkd v)] (i * 4 + j)) = [v] := by
 show [CV.mk v.kd v.nn v.tx (rdL (.lst 4 (zm8 v) (zkd v)))] = [v]
 rw [zdj]
theorem ymw (v : CV) : okL (.lst 4 1 fun i j => zbm .dead [.int .i64 v.kd, .int .u64 v.nn, .str v.tx, .lst 4 (zm8 v) (zkd v)] (i * 4 + j)) := by
 refine ⟨rfl, fun i hi => ?_⟩
 have : i = 0 := by omega
 subst this
 exact ⟨⟨_, rfl⟩, ⟨_, rfl⟩, ⟨_, rfl⟩, (zky v).2⟩
theorem zzy : zaw 1 = [1] := by rw [zaw, show (1 : Int).toNat = 1 from rfl, zb9 (by decide)]; rfl
theorem yrm : zaw 5 = [5] := by rw [zaw, show (5 : Int).toNat = 5 from rfl, zb9 (by decide)]; rfl
theorem ztb : zbn (zd3 [zfw 5]) = [3, 1, 1, 5] := by
 rw [zd3, zfw, zai, if_neg (by decide), if_neg (by decide), zav, zai, if_pos rfl, zav, yrm]
 show _ ++ (zaw 1 ++ _) = _
 rw [zzy]; rfl
theorem yow : zew (zd3 [zfw 5]) = true := by rw [zd3, zfw, zew, zdf, zew, zdf]; rfl
theorem yov : zd7 (zd3 [zfw 5]) = 1 := by rw [zd3, zfw, zd7, zaz, zd7, zaz]; rfl
theorem yos : sizeC (zd3 [zfw 5]) = 2 := by rw [zd3, zfw, zck, zbk, zcf, zck, zcf]
theorem yda : zqb (zd3 [zfw 5]) = 0 := by rw [zqb, yow, yov, ztb]; rfl
theorem yot : zx9 (zd3 [zfw 5]) = [3, 1, 1, 5] := by rw [zx9, yda, ztb]; rfl
theorem yy1 : zzr (zd3 [zfw 5]) := by
 refine ⟨?_, by rw [ztb]; decide⟩
 simp only [zd3, zfw, wfV, zu7, zcl]
 decide
theorem zym : za9 Tryz.prog 83 [] (.bool true) := by
 refine za6 (T := tt) (S := fun L => zad [zxj L, zfk L, zw3 100 L, tru 134]) (lo := noA) (lb := noA) 5 (fn := Tryz.f83) rfl rfl (by kernel_rfl) (by kernel_rfl) rfl zab (za1 ⟨zk0, zc8, znj 100, zbe zjb, trivial⟩) (by kernel_rfl) ?_
 intro L P' Q' hL hP hQ
 (cbv; try simp only [syT, true_and, and_true])
 (subst hL; subst hQ; simp only [L2, L3, std] at *; try simp only [syS, reduceCtorEq, Int.reduceToNat, Int.reduceAdd, Int.reduceSub] at *)
 simp only [one1, zdj, zbv, yda, yot]
 exact ⟨⟨ymw _, by show (1 : Nat) <= 1000000; omega⟩, ⟨(zky _).2, ⟨by rw [yos]; omega, by omega⟩, yy1⟩, fun _ => trivial, trivial⟩
theorem zyw : za9 Tryz.prog 32 [] (.bool true) := by
 refine za6 (T := tt) (S := fun L => zad [tru 83]) (lo := noA) (lb := noA) 5 (fn := Tryz.f32) rfl rfl (by kernel_rfl) (by kernel_rfl) rfl zab (za1 ⟨zbe zym, trivial⟩) (by kernel_rfl) ?_
 (intro L P1 Q1 hL hP hQ; cbv; subst hL; simp only [L2, L3, std, syT]; subst hQ)
 (simp only [syS, reduceCtorEq, Int.reduceToNat, Int.reduceAdd, Int.reduceSub])
theorem zpf (g : Nat -> CV) {i q j : Nat} (hq : q < i + 1) (hj : j < 4) :
   zgv std (zbo q i) (cv1 std (g q) j) (zbm .dead [.int .i64 (g i).kd, .int .u64 (g i).nn, .str (g i).tx, .lst 4 (zm8 (g i)) (zkd (g i))] ((q - i) * 4 + j)) = cv1 std (g q) j := by
 by_cases h : q < i
 · rw [zm0 h, show q - i = 0 by omega, Nat.zero_mul, Nat.zero_add]
   match j, hj with
   | 0, _ => rfl
   | 1, _ => rfl
   | 2, _ => rfl
   | 3, _ => rfl
 · have : q = i := by omega
   subst this
   rw [zpn (by omega), show q - q = 0 by omega, Nat.zero_mul, Nat.zero_add]
   match j, hj with
   | 0, _ => rfl
   | 1, _ => rfl
   | 2, _ => rfl
   | 3, _ => rfl
structure Nd where
 k : Int
 n : Int
 s : List UInt8
 b : List UInt8
def yvd (l : List Nd) (i : Nat) : Nd := l.getD i ⟨0, 0, [], []⟩
def yq5 {α : Type} (all : List α) : List UInt8 -> List α
 | [] => []
 | x :: b => if h : x.toNat < all.length then all[all.length - 1 - x.toNat] :: yq5 all b else yq5 all b
def sumI : List Int -> Int
 | [] => 0
 | x :: l => x + sumI l
def sizN (all : List Int) (d : Nd) : Int := 1 + ((d.s.length / 8 : Nat) : Int) + sumI (yq5 all d.b)
def ylj (l : List Nd) : Nat -> List Int
 | 0 => []
 | i + 1 => ylj l i ++ [sizN (ylj l i) (yvd l i)]
def sizD (l : List Nd) (i : Nat) : Int := sizN (ylj l i) (yvd l i)
def yib (l : List Nd) (i : Nat) : Prop := sizD l i <= 2000 /\ (yvd l i).s.length <= 9000 /\ (yvd l i).b.length <= 20 /\ l.length <= 40
def yka (l : List Nd) (i : Nat) : Prop := ∀ j, j < i -> yib l j
instance (l : List Nd) (i : Nat) : Decidable (yib l i) := by unfold yib; exact inferInstance
instance (l : List Nd) (i : Nat) : Decidable (yka l i) := by unfold yka; exact Nat.decidableBallLT i fun j _ => yib l j
def cb (s : List UInt8) (i : Nat) : Nat := (s.getD i 0).toNat
def lng (s : List UInt8) : Nat -> Nat -> Nat -> Nat × Nat × Nat
 | 0, _, _ => (0, 0, 4)
 | f + 1, i, n =>
   if s.length <= i then (0, 0, 3)
   else if i = 9 /\ 1 < cb s i then (0, 0, 4)
   else if 128 <= cb s i then lng s f (i + 1) (n + cb s i % 128 * 2 ^ (7 * i))
   else if 0 < cb s i \/ i = 0 then (n + cb s i % 128 * 2 ^ (7 * i), i + 1, 0)
   else (0, 0, 4)
def yne (s : List UInt8) : Int := (lng s 10 0 0).1
def yxf (s : List UInt8) : Int := (lng s 10 0 0).2.1
def yvg (s : List UInt8) : Int := (lng s 10 0 0).2.2
structure Lv where
 left : Int
 l : List CV
structure NR where
 v : CV
 r : List UInt8
 e : Int
structure NX where
 st : List Lv
 s : List UInt8
 f : Nat
 v : CV
def zmc (e : Int) : NR := ⟨.mk 0 0 [] [], [], e⟩
def zf9 (val : List Lv -> List UInt8 -> NR) : List Lv -> CV -> List UInt8 -> NR
 | [], v, s => ⟨v, s, 0⟩
 | a :: st, v, s => if a.left - 1 = 0 then zf9 val st (.mk 3 0 [] (a.l ++ [v])) s else val (⟨a.left - 1, a.l ++ [v]⟩ :: st) s
def zis (val : List Lv -> List UInt8 -> NR) : List Lv -> List UInt8 -> NR
 | [], s => zmc 0
 | a :: st, s => if a.left = 0 then zf9 val st (.mk 3 0 [] a.l) s else val (a :: st) s
def zh1 (s : List UInt8) : List UInt8 := (s.drop 1).drop (yxf (s.drop 1)).toNat
def ze7 : Nat -> List Lv -> List UInt8 -> NR
 | 0, _, _ => zmc 0
 | f + 1, st, s =>
   if s = [] then zmc 3
   else if cb s 0 < 1 \/ 3 < cb s 0 then zmc 10
   else if yvg (s.drop 1) ≠ 0 then zmc (yvg (s.drop 1))
   else if cb s 0 = 1 then zf9 (ze7 f) st (.mk 1 (yne (s.drop 1)) [] []) (zh1 s)
   else if cb s 0 = 2 then
     if ((zh1 s).length : Int) < yne (s.drop 1) then zmc 3
     else zf9 (ze7 f) st (.mk 2 0 ((zh1 s).take (yne (s.drop 1)).toNat) []) ((zh1 s).drop (yne (s.drop 1)).toNat)
   else if st.length = 6 then zmc 8
   else zis (ze7 f) (⟨yne (s.drop 1), []⟩ :: st) (zh1 s)
def ysh (s : List UInt8) : NR := if 8192 < s.length then zmc 5 else ze7 (s.length + 1) [] s
def yrj : List Lv -> Nat
 | [] => 0
 | a :: r => a.l.length + 1 + yrj r
def lvOk (st : List Lv) : Prop := ∀ a ∈ st, 1 <= a.left /\ a.left < 18446744073709551616
def yxb (s0 : List UInt8) (x : NX) : Prop := x.st.length <= 6 /\ lvOk x.st /\ x.s.length < x.f /\ x.s.length + yrj x.st <= 8192 /\ ze7 x.f x.st x.s = ysh s0
section
variable {s0 s : List UInt8} {st : List Lv} {f : Nat} {v : CV}
variable (h : yxb s0 ⟨st, s, f, v⟩)
include h
end
section
variable {s0 s : List UInt8} {st : List Lv} {f : Nat} {v : CV} {a : Lv}
end
end Sy
end Go.Proofs.YthppjaoicibeiaaGreatDoor
namespace Go.Proofs.YthppjaoicibeiaaGreatDoor
namespace Sy
open Go Go.RowKit
set_option maxRecDepth 100000
set_option linter.unusedSimpArgs false
set_option linter.unusedVariables false
theorem yuh (p : List UInt8) (c : UInt8) (r : List UInt8) : cb (p ++ c :: r) p.length = c.toNat := by
 unfold cb
 rw [List.getD_eq_getElem?_getD, List.getElem?_append_right (Nat.le_refl _), Nat.sub_self]
 rfl
theorem zqn (r : List UInt8) : ∀ (f m n0 : Nat) (p : List UInt8), f + p.length = 10 -> m * 2 ^ (7 * p.length) < 2 ^ 64 -> (0 < m \/ p.length = 0) ->
   lng (p ++ (zdc m ++ r)) f p.length n0 = (n0 + m * 2 ^ (7 * p.length), p.length + (zdc m).length, 0)
 | 0, m, n0, p, hf, hm, h0 => by
   have : p.length = 10 := by omega
   rw [this] at hm h0
   have : 2 ^ (7 * 10) <= m * 2 ^ (7 * 10) := Nat.le_mul_of_pos_left _ (by omega)
   omega
 | f + 1, m, n0, p, hf, hm, h0 => by
   by_cases hb : 128 <= m
   · rw [zgd hb]
     have hc : cb (p ++ (UInt8.ofNat (m % 128 + 128) :: zdc (m / 128) ++ r)) p.length = m % 128 + 128 := by
       rw [List.cons_append, yuh]
       simp; omega
     have h9 : p.length ≠ 9 := by
       intro h
       rw [h] at hm
       have : 128 * 2 ^ (7 * 9) <= m * 2 ^ (7 * 9) := Nat.mul_le_mul_right _ hb
       omega
     rw [lng, if_neg (by simp), hc, if_neg (by omega), if_pos (by omega)]
     have e : p ++ (UInt8.ofNat (m % 128 + 128) :: zdc (m / 128) ++ r) = (p ++ [UInt8.ofNat (m % 128 + 128)]) ++ (zdc (m / 128) ++ r) := by simp
     have hl : (p ++ [UInt8.ofNat (m % 128 + 128)]).length = p.length + 1 := by simp
     have hp : 2 ^ (7 * (p.length + 1)) = 128 * 2 ^ (7 * p.length) := by rw [show 7 * (p.length + 1) = 7 + 7 * p.length by omega, Nat.pow_add]
     have hd : m / 128 * (128 * 2 ^ (7 * p.length)) + m % 128 * 2 ^ (7 * p.length) = m * 2 ^ (7 * p.length) := by
       rw [<- Nat.mul_assoc, <- Nat.add_mul]
       congr 1; omega
     have ih := zqn r f (m / 128) (n0 + (m % 128 + 128) % 128 * 2 ^ (7 * p.length)) (p ++ [UInt8.ofNat (m % 128 + 128)]) (by rw [hl]; omega) (by rw [hl, hp]; omega) (.inl (by omega))
     rw [hl] at ih
     rw [e, ih, hp, List.length_cons, show (m % 128 + 128) % 128 = m % 128 by omega]
     refine Prod.ext ?_ (Prod.ext ?_ rfl)
     · show n0 + m % 128 * 2 ^ (7 * p.length) + m / 128 * (128 * 2 ^ (7 * p.length)) = n0 + m * 2 ^ (7 * p.length)
       omega
     · show p.length + 1 + _ = p.length + (_ + 1)
       omega
   · rw [zb9 (by omega)]
     have hc : cb (p ++ ([UInt8.ofNat m] ++ r)) p.length = m := by
       rw [List.singleton_append, yuh]
       simp; omega
     have h9 : ¬ (p.length = 9 /\ 1 < m) := by
       rintro ⟨h, h1⟩
       rw [h] at hm
       have : 2 * 2 ^ (7 * 9) <= m * 2 ^ (7 * 9) := Nat.mul_le_mul_right _ h1
       omega
     rw [lng, if_neg (by simp), hc, if_neg h9, if_neg (by omega), if_pos h0, Nat.mod_eq_of_lt (by omega)]
     rfl
theorem ysw {m : Int} (h : zcl m) (r : List UInt8) : yne (zaw m ++ r) = m /\ yxf (zaw m ++ r) = ((zaw m).length : Int) /\ yvg (zaw m ++ r) = 0 := by
 have h0 := h.1
 have h1 := h.2
 have := zqn r 10 m.toNat 0 [] rfl (by simp; omega) (.inr rfl)
 simp only [List.nil_append, List.length_nil, Nat.zero_add, Nat.mul_zero, Nat.pow_zero, Nat.mul_one] at this
 unfold yne yxf yvg zaw
 rw [this]
 refine ⟨?_, rfl, rfl⟩
 show ((m.toNat : Nat) : Int) = m
 omega
theorem zoi {m : Int} (h : zcl m) (g : Nat) (st : List Lv) (c : UInt8) (r : List UInt8) (hc : 1 <= c.toNat /\ c.toNat <= 3) : ze7 (g + 1) st (c :: (zaw m ++ r)) =
   if c.toNat = 1 then zf9 (ze7 g) st (.mk 1 m [] []) r
   else if c.toNat = 2 then
     if (r.length : Int) < m then zmc 3
     else zf9 (ze7 g) st (.mk 2 0 (r.take m.toNat) []) (r.drop m.toNat)
   else if st.length = 6 then zmc 8
   else zis (ze7 g) (⟨m, []⟩ :: st) r := by
 obtain ⟨e1, e2, e3⟩ := ysw h r
 have hcb : cb (c :: (zaw m ++ r)) 0 = c.toNat := rfl
 have hr : zh1 (c :: (zaw m ++ r)) = r := by
   unfold zh1
   rw [List.drop_succ_cons, List.drop_zero, e2]
   simp
 rw [ze7, if_neg (by simp), hcb, if_neg (by omega), List.drop_succ_cons, List.drop_zero, e1, e3, hr, if_neg (by simp)]
theorem yp4 (v : CV) : 0 <= zd7 v /\ 0 <= zaz v.ls := by
 have h0 : ∀ b : List CV, 0 <= zaz b := by
   intro b
   induction b with
   | nil => rw [zaz]; omega
   | cons v l ih => rw [zaz]; omega
 refine ⟨?_, h0 _⟩
 cases v with
 | mk k n s l =>
   rw [zd7]
   have := h0 l
   split <;> omega
def yqc (v : CV) : Prop := ∀ (st : List Lv) (s : List UInt8) (f : Nat), wfV v -> zew v = true -> (st.length : Int) + zd7 v <= 6 -> (zbn v).length <= 90000000 -> (zbn v).length + s.length < f ->
 ∃ f', s.length < f' /\ ze7 f st (zbn v ++ s) = zf9 (ze7 f') st v s
theorem yfc (v : CV) : 0 < (zbn v).length := by
 cases v with
 | mk k n s l =>
   rw [zai, List.length_append]
   show 0 < 1 + _
   omega
theorem zpx : ∀ l : List CV, l.length <= (zav l).length
 | [] => by simp
 | v :: l => by
   have := zpx l
   have := yfc v
   rw [zav, List.length_append, List.length_cons]
   omega
theorem zv2 (st : List Lv) (s : List UInt8) : ∀ (l : List CV) (acc : List CV) (f : Nat), (∀ w ∈ l, yqc w) -> zu7 l -> zdf l = true -> (st.length : Int) + 1 + zaz l <= 6 -> (zav l).length <= 90000000 -> (zav l).length + s.length < f ->
   ∃ f', s.length < f' /\ zis (ze7 f) (⟨(l.length : Int), acc⟩ :: st) (zav l ++ s) = zf9 (ze7 f') st (.mk 3 0 [] (acc ++ l)) s
 | [], acc, f, hr, hw, hb, hd, ht, hf => by
   refine ⟨f, by rw [zav] at hf; simpa using hf, ?_⟩
   rw [zis, if_pos (show ((List.length ([] : List CV) : Nat) : Int) = 0 from rfl), zav, List.nil_append, List.append_nil]
 | v :: l, acc, f, hr, hw, hb, hd, ht, hf => by
   rw [zu7] at hw
   rw [zdf, Bool.and_eq_true] at hb
   rw [zaz] at hd
   rw [zav, List.length_append] at ht hf
   obtain ⟨f1, h1, e1⟩ := hr v (by simp) (⟨((v :: l).length : Int), acc⟩ :: st) (zav l ++ s) f hw.1 hb.1 (by rw [List.length_cons]; omega) (by omega) (by rw [List.length_append]; omega)
   rw [List.length_append] at h1
   obtain ⟨f2, h2, e2⟩ := zv2 st s l (acc ++ [v]) f1 (fun w hw => hr w (by simp [hw])) hw.2 hb.2 (by omega) (by omega) h1
   refine ⟨f2, h2, ?_⟩
   rw [zis, if_neg (by simp; omega), zav, List.append_assoc, e1]
   have e3 : (((v :: l).length : Int) - 1) = (l.length : Int) := by simp
   rw [zis] at e2
   rw [zf9]
   simp only [e3]
   rw [e2, List.append_assoc, List.singleton_append]
theorem reads (v : CV) : yqc v := by
 refine ydi (p := yqc) (fun k n s l ih => ?_) v
 intro st r f hw hb hd ht hf
 rw [wfV] at hw
 obtain ⟨g, rfl⟩ : ∃ g, f = g + 1 := ⟨f - 1, by omega⟩
 rw [zai] at ht hf |-
 rw [zew] at hb
 by_cases h1 : k = 1
 · subst h1
   rw [if_pos rfl] at hb ht hf |-
   simp only [Bool.and_eq_true, decide_eq_true_eq, List.isEmpty_iff] at hb
   obtain ⟨rfl, rfl⟩ := hb
   rw [List.length_append] at hf
   have e : zfo 1 = [1] := rfl
   rw [e] at hf |-
   refine ⟨g, by simp at hf; omega, ?_⟩
   rw [List.singleton_append, List.cons_append, zoi hw.1 g st 1 r (by decide)]
   rfl
 · rw [if_neg h1] at hb ht hf |-
   by_cases h2 : k = 2
   · subst h2
     rw [if_pos rfl] at hb ht hf |-
     simp only [Bool.and_eq_true, decide_eq_true_eq, List.isEmpty_iff] at hb
     obtain ⟨rfl, rfl⟩ := hb
     rw [List.length_append, List.length_append] at ht hf
     have e : zfo 2 = [2] := rfl
     rw [e] at hf |-
     refine ⟨g, by simp at hf; omega, ?_⟩
     rw [List.singleton_append, List.cons_append, List.append_assoc, zoi ⟨by omega, by omega⟩ g st 2 (s ++ r) (by decide)]
     rw [if_neg (by decide), if_pos (by decide), if_neg (by simp; omega)]
     rw [Int.toNat_natCast, List.take_left, List.drop_left]
   · rw [if_neg h2] at hb ht hf |-
     by_cases h3 : k = 3
     · subst h3
       rw [if_pos rfl] at hb
       simp only [Bool.and_eq_true, decide_eq_true_eq] at hb
       obtain ⟨⟨rfl, rfl⟩, hb⟩ := hb
       rw [zd7, if_pos rfl] at hd
       rw [List.length_append, List.length_append] at ht hf
       have e : zfo 3 = [3] := rfl
       rw [e] at hf |-
       have hll := zpx l
       have hdn := (yp4 (.mk 3 0 [] l)).2
       have hdn : 0 <= zaz l := hdn
       obtain ⟨f', h5, h6⟩ := zv2 st r l [] g ih hw.2.2 hb (by omega) (by omega) (by simp at hf; omega)
       refine ⟨f', h5, ?_⟩
       rw [List.singleton_append, List.cons_append, List.append_assoc, zoi ⟨by omega, by omega⟩ g st 3 (zav l ++ r) (by decide)]
       rw [if_neg (by decide), if_neg (by decide), if_neg (by omega), h6, List.nil_append]
     · rw [if_neg h3] at hb; cases hb
theorem ys5 {v : CV} (h : zqb v = 0) : zew v = true /\ zd7 v <= 6 /\ (zbn v).length <= 8192 /\ zx9 v = zbn v := by
 have ht : zx9 v = zbn v := by unfold zx9; rw [if_pos h]
 unfold zqb at h
 split at h
 · rename_i h1
   split at h
   · cases h
   · rename_i h2
     split at h
     · cases h
     · rename_i h3
       exact ⟨h1, by omega, by omega, ht⟩
 · cases h
theorem zuq {n : Nat} {get : Nat -> Nat -> AV} {l : List CV} (hn : n = l.length) (h : ∀ i j, i < n -> j < 4 -> get i j = ze1 (zdi l i) j) : rdL (.lst 4 n get) = l /\ okL (.lst 4 n get) := by
 constructor
 · apply List.ext_getElem
   · rw [zkx, hn]
   · intro i h1 h2
     have hi : i < n := by omega
     have e : ∀ m : List CV, ∀ hm : i < m.length, m[i] = zdi m i := fun m hm => by rw [zdi, List.getD_eq_getElem?_getD, List.getElem?_eq_getElem hm]; rfl
     rw [e _ h1, e _ h2, zup hi, h i 0 hi (by omega), h i 1 hi (by omega), h i 2 hi (by omega), h i 3 hi (by omega), zfi, zfh, zfg, zff]
     show CV.mk _ _ _ (rdL (.lst 4 (zm8 (zdi l i)) (zkd (zdi l i)))) = _
     exact zdj _
 · refine ⟨rfl, fun i hi => ?_⟩
   rw [h i 0 hi (by omega), h i 1 hi (by omega), h i 2 hi (by omega), h i 3 hi (by omega), zfi, zfh, zfg, zff]
   exact ⟨⟨_, rfl⟩, ⟨_, rfl⟩, ⟨_, rfl⟩, (zky (zdi l i)).2⟩
def okG {α : Type} (V : Vw α) : AV -> Prop
 | .agg cs => cs.length = V.sz /\ V.ok (fun j => zbm .dead cs j)
 | _ => False
def rdG {α : Type} (V : Vw α) : AV -> α
 | .agg cs => V.rd (fun j => zbm .dead cs j)
 | _ => V.d
theorem yc1 (cs : List AV) (j : Nat) : zbm .dead cs j = (cs[j]?).getD .dead := by
 induction cs generalizing j with
 | nil => cases j <;> rfl
 | cons x l ih => cases j with
   | zero => rfl
   | succ j => exact ih j
theorem gK {α : Type} {V : Vw α} (K : znq V) (x : α) (cs : List AV) (h : cs = (List.range V.sz).map (V.cell std x)) : okG V (.agg cs) /\ rdG V (.agg cs) = x := by
 have h1 : ∀ j, j < V.sz -> zbm .dead cs j = V.cell std x j := fun j hj => by rw [yc1, h]; simp [hj]
 have h2 := K.back _ x h1
 exact ⟨⟨by simp [h], h2.1⟩, h2.2⟩
theorem G_R {α : Type} {V : Vw α} (K : znq V) {x : AV} (ho : okG V x) {h : Array Obj} {D : Nat -> Prop} {μ : Mu} {v : Value} (r : R h D μ x v) : R h D μ (.agg ((List.range V.sz).map (V.cell std (rdG V x)))) v := by
 match x, ho with
 | .agg cs, ho =>
   obtain ⟨us, rfl, o1, s1, hr⟩ := r.inv_agg
   refine .agg _ _ (by rw [<- s1]; simp [ho.1]) o1 fun i y w hy hw => ?_
   have hi : i < V.sz := by
     have := (List.getElem?_eq_some_iff.1 hy).1
     simpa using this
   simp [hi] at hy
   subst hy
   have hc : cs[i]? = some (zbm .dead cs i) := by
     rw [yc1, List.getElem?_eq_getElem (by rw [ho.1]; exact hi)]; rfl
   exact K.turn _ ho.2 i hi _ _ _ _ (hr i _ w hc hw)
theorem zpq {α : Type} {V : Vw α} (K : znq V) {P : Program} {f : FuncId} {x r : AV} {q : List AV} (ho : okG V x) (h : za9 P f (.agg ((List.range V.sz).map (V.cell std (rdG V x))) :: q) r) : za9 P f (x :: q) r :=
 zdm (fun h D vs hr => ym9 (fun v => G_R K ho) hr) h
structure Rt where
 h : List UInt8
 p : List UInt8
 c : List UInt8
 i : Int
 deriving DecidableEq
structure Ep where
 pl : Pl
 w : Int
 deriving DecidableEq
structure Ls where
 n : List UInt8
 pl : Pl
 rs : List Rt
 deriving DecidableEq
structure Cl where
 n : List UInt8
 es : List Ep
 deriving DecidableEq
structure Cf where
 v : Int
 ls : List Ls
 cs : List Cl
 deriving DecidableEq
def plC (L : zaa) (x : Pl) : Nat -> AV
 | 0 => .int .u8 (L Pl.a x)
 | 1 => .int .u8 (L Pl.b x)
 | 2 => .int .u8 (L Pl.c x)
 | 3 => .int .u8 (L Pl.d x)
 | _ => .int .u16 (L Pl.p x)
def rdP (c : Nat -> AV) : Pl := ⟨(c 0).toI, (c 1).toI, (c 2).toI, (c 3).toI, (c 4).toI⟩
def yvc (c : Nat -> AV) : Prop := isI .u8 (c 0) /\ isI .u8 (c 1) /\ isI .u8 (c 2) /\ isI .u8 (c 3) /\ isI .u16 (c 4)
def rtC (L : zaa) (x : Rt) : Nat -> AV
 | 0 => .str (L Rt.h x)
 | 1 => .str (L Rt.p x)
 | 2 => .str (L Rt.c x)
 | _ => .int .u64 (L Rt.i x)
def rtV : Vw Rt := ⟨4, rtC, fun c => ⟨zx8 (c 0), zx8 (c 1), zx8 (c 2), (c 3).toI⟩, fun c => isS (c 0) /\ isS (c 1) /\ isS (c 2) /\ isI .u64 (c 3), ⟨[], [], [], 0⟩⟩
def zen (l : List Rt) (i : Nat) : Rt := zok rtV l i
def zor (L : zaa) (l : List Rt) : AV := .lst 4 (L zb3 l) (fun i => rtC L (L (L zen l) i))
def zsq (x : AV) : Prop := okW rtV x
def zjn (x : AV) : List Rt := rdW rtV x
def zxh (x : AV) : Prop := okG rtV x
def zkz (x : AV) : Rt := rdG rtV x
def epC (L : zaa) (x : Ep) : Nat -> AV
 | 5 => .int .i64 (L Ep.w x)
 | j => plC L (L Ep.pl x) j
def epV : Vw Ep := ⟨6, epC, fun c => ⟨rdP c, (c 5).toI⟩, fun c => yvc c /\ isI .i64 (c 5), ⟨⟨0, 0, 0, 0, 0⟩, 0⟩⟩
def zdw (l : List Ep) (i : Nat) : Ep := zok epV l i
def zgr (L : zaa) (l : List Ep) : AV := .lst 6 (L zb3 l) (fun i => epC L (L (L zdw l) i))
def zjo (x : AV) : Prop := okW epV x
def zgp (x : AV) : List Ep := rdW epV x
def zl5 (x : AV) : Prop := okG epV x
def zhn (x : AV) : Ep := rdG epV x
def lsC (L : zaa) (x : Ls) : Nat -> AV
 | 0 => .str (L Ls.n x)
 | 6 => zor L (L Ls.rs x)
 | j + 1 => plC L (L Ls.pl x) j
def lsV : Vw Ls := ⟨7, lsC, fun c => ⟨zx8 (c 0), rdP (fun j => c (j + 1)), rdW rtV (c 6)⟩, fun c => isS (c 0) /\ yvc (fun j => c (j + 1)) /\ okW rtV (c 6), ⟨[], ⟨0, 0, 0, 0, 0⟩, []⟩⟩
def zap (l : List Ls) (i : Nat) : Ls := zok lsV l i
def zfn (L : zaa) (l : List Ls) : AV := .lst 7 (L zb3 l) (fun i => lsC L (L (L zap l) i))
def zoh (x : AV) : Prop := okW lsV x
def zhl (x : AV) : List Ls := rdW lsV x
def zl4 (x : AV) : Prop := okG lsV x
def zhm (x : AV) : Ls := rdG lsV x
def clC (L : zaa) (x : Cl) : Nat -> AV
 | 0 => .str (L Cl.n x)
 | _ => zgr L (L Cl.es x)
def clV : Vw Cl := ⟨2, clC, fun c => ⟨zx8 (c 0), rdW epV (c 1)⟩, fun c => isS (c 0) /\ okW epV (c 1), ⟨[], []⟩⟩
def zar (l : List Cl) (i : Nat) : Cl := zok clV l i
def zes (L : zaa) (l : List Cl) : AV := .lst 2 (L zb3 l) (fun i => clC L (L (L zar l) i))
def zir (x : AV) : Prop := okW clV x
def zfm (x : AV) : List Cl := rdW clV x
def zgq (x : AV) : Prop := okG clV x
def zf6 (x : AV) : Cl := rdG clV x
def cfC (L : zaa) (x : Cf) : Nat -> AV
 | 0 => .int .u64 (L Cf.v x)
 | 1 => zfn L (L Cf.ls x)
 | _ => zes L (L Cf.cs x)
def cfV : Vw Cf := ⟨3, cfC, fun c => ⟨(c 0).toI, rdW lsV (c 1), rdW clV (c 2)⟩, fun c => isI .u64 (c 0) /\ okW lsV (c 1) /\ okW clV (c 2), ⟨0, [], []⟩⟩
def zfv (x : AV) : Prop := okG cfV x
def zat (x : AV) : Cf := rdG cfV x
theorem zdu : znq rtV := by
 refine ⟨fun c hc j hj h D μ v r => ?_, fun c x hx => ?_⟩
 · obtain ⟨h0, h1, h2, h3⟩ := hc
   match j, hj with
   | 0, _ => exact zxv h0 r
   | 1, _ => exact zxv h1 r
   | 2, _ => exact zxv h2 r
   | 3, _ => exact zp0 h3 r
 · have e0 := hx 0 (by decide)
   have e1 := hx 1 (by decide)
   have e2 := hx 2 (by decide)
   have e3 := hx 3 (by decide)
   refine ⟨⟨⟨_, e0⟩, ⟨_, e1⟩, ⟨_, e2⟩, ⟨_, e3⟩⟩, ?_⟩
   show Rt.mk (zx8 (c 0)) (zx8 (c 1)) (zx8 (c 2)) (c 3).toI = x
   rw [e0, e1, e2, e3]; rfl
theorem zed {c : Nat -> AV} (hc : yvc c) {j : Nat} (hj : j < 5) {h : Array Obj} {D : Nat -> Prop} {μ : Mu} {v : Value} (r : R h D μ (c j) v) : R h D μ (plC std (rdP c) j) v := by
 obtain ⟨h0, h1, h2, h3, h4⟩ := hc
 match j, hj with
 | 0, _ => exact zp0 h0 r
 | 1, _ => exact zp0 h1 r
 | 2, _ => exact zp0 h2 r
 | 3, _ => exact zp0 h3 r
 | 4, _ => exact zp0 h4 r
theorem yay {c : Nat -> AV} {x : Pl} (hx : ∀ j, j < 5 -> c j = plC std x j) : yvc c /\ rdP c = x := by
 have e0 := hx 0 (by decide)
 have e1 := hx 1 (by decide)
 have e2 := hx 2 (by decide)
 have e3 := hx 3 (by decide)
 have e4 := hx 4 (by decide)
 refine ⟨⟨⟨_, e0⟩, ⟨_, e1⟩, ⟨_, e2⟩, ⟨_, e3⟩, ⟨_, e4⟩⟩, ?_⟩
 unfold rdP
 rw [e0, e1, e2, e3, e4]; rfl
theorem zci : znq epV := by
 refine ⟨fun c hc j hj h D μ v r => ?_, fun c x hx => ?_⟩
 · obtain ⟨h0, h1⟩ := hc
   match j, hj with
   | 0, _ => exact zed h0 (by omega) r
   | 1, _ => exact zed h0 (by omega) r
   | 2, _ => exact zed h0 (by omega) r
   | 3, _ => exact zed h0 (by omega) r
   | 4, _ => exact zed h0 (by omega) r
   | 5, _ => exact zp0 h1 r
 · have e5 := hx 5 (by decide)
   have hp := yay (c := c) (x := x.pl) (fun j hj => by
     match j, hj with
     | 0, _ => exact hx 0 (by decide)
     | 1, _ => exact hx 1 (by decide)
     | 2, _ => exact hx 2 (by decide)
     | 3, _ => exact hx 3 (by decide)
     | 4, _ => exact hx 4 (by decide))
   refine ⟨⟨hp.1, ⟨_, e5⟩⟩, ?_⟩
   show Ep.mk (rdP c) (c 5).toI = x
   rw [hp.2, e5]; rfl
theorem zcw : znq lsV := by
 refine ⟨fun c hc j hj h D μ v r => ?_, fun c x hx => ?_⟩
 · obtain ⟨h0, h1, h2⟩ := hc
   match j, hj with
   | 0, _ => exact zxv h0 r
   | 1, _ => exact zed (c := fun j => c (j + 1)) h1 (j := 0) (by omega) r
   | 2, _ => exact zed (c := fun j => c (j + 1)) h1 (j := 1) (by omega) r
   | 3, _ => exact zed (c := fun j => c (j + 1)) h1 (j := 2) (by omega) r
   | 4, _ => exact zed (c := fun j => c (j + 1)) h1 (j := 3) (by omega) r
   | 5, _ => exact zed (c := fun j => c (j + 1)) h1 (j := 4) (by omega) r
   | 6, _ => exact zog zdu h2 r
 · have e0 := hx 0 (by decide)
   have e6 := hx 6 (by decide)
   have hp := yay (c := fun j => c (j + 1)) (x := x.pl) (fun j hj => by
     match j, hj with
     | 0, _ => exact hx 1 (by decide)
     | 1, _ => exact hx 2 (by decide)
     | 2, _ => exact hx 3 (by decide)
     | 3, _ => exact hx 4 (by decide)
     | 4, _ => exact hx 5 (by decide))
   have e6 : c 6 = zxr std rtV x.rs := e6
   obtain ⟨k1, k2⟩ := zcn zdu x.rs
   rw [<- e6] at k1 k2
   refine ⟨⟨⟨_, e0⟩, hp.1, k1⟩, ?_⟩
   show Ls.mk (zx8 (c 0)) (rdP fun j => c (j + 1)) (rdW rtV (c 6)) = x
   rw [hp.2, k2, e0]; rfl
theorem zbw : znq clV := by
 refine ⟨fun c hc j hj h D μ v r => ?_, fun c x hx => ?_⟩
 · obtain ⟨h0, h1⟩ := hc
   match j, hj with
   | 0, _ => exact zxv h0 r
   | 1, _ => exact zog zci h1 r
 · have e0 := hx 0 (by decide)
   have e1 : c 1 = zxr std epV x.es := hx 1 (by decide)
   obtain ⟨k1, k2⟩ := zcn zci x.es
   rw [<- e1] at k1 k2
   refine ⟨⟨⟨_, e0⟩, k1⟩, ?_⟩
   show Cl.mk (zx8 (c 0)) (rdW epV (c 1)) = x
   rw [k2, e0]; rfl
theorem zcx : znq cfV := by
 refine ⟨fun c hc j hj h D μ v r => ?_, fun c x hx => ?_⟩
 · obtain ⟨h0, h1, h2⟩ := hc
   match j, hj with
   | 0, _ => exact zp0 h0 r
   | 1, _ => exact zog zcw h1 r
   | 2, _ => exact zog zbw h2 r
 · have e0 := hx 0 (by decide)
   have e1 : c 1 = zxr std lsV x.ls := hx 1 (by decide)
   have e2 : c 2 = zxr std clV x.cs := hx 2 (by decide)
   obtain ⟨k1, k2⟩ := zcn zcw x.ls
   obtain ⟨k3, k4⟩ := zcn zbw x.cs
   rw [<- e1] at k1 k2
   rw [<- e2] at k3 k4
   refine ⟨⟨⟨_, e0⟩, k1, k3⟩, ?_⟩
   show Cf.mk (c 0).toI (rdW lsV (c 1)) (rdW clV (c 2)) = x
   rw [k2, k4, e0]; rfl
end Sy
end Go.Proofs.YthppjaoicibeiaaGreatDoor
