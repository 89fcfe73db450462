/-strings.Index, Count (of one byte), Compare, Join: the kit's contracts as summaries; Cut, Split; a text parted by a byte. Chapter 3 (label): letters, names, parts of a host; and what stands between these and the texts behind.-/
import Derived.Test.YthppjaoicibeiaaGreatDoorM3
import Derived.Test.YthppjaoicibeiaaGreatDoorShelf
import Derived.Shelf.Strconv.Itoa3
import Derived.Lib.AppendIntMem
import Derived.Lib.Walk
import Derived.WalkKit
import Derived.BigCall
import Derived.BigGuard
import Derived.Lib.AtoiErrMem
import Derived.Lib.ParseIntBCases
import Derived.ChangeArms
import Derived.ChangeSlices
import Derived.OpenShut
import Derived.WideShapes
import Derived.Lib.Builder
namespace Go.Proofs.YthppjaoicibeiaaGreatDoor
namespace Sy
open Go Go.RowKit
set_option maxRecDepth 100000
set_option linter.unusedSimpArgs false
set_option linter.unusedVariables false
def zb4 (c : UInt8) : List UInt8 -> List (List UInt8)
 | [] => [[]]
 | x :: s => if x = c then [] :: zb4 c s else match zb4 c s with
   | y :: r => (x :: y) :: r
   | [] => [[x]]
theorem zpw (c : UInt8) : ∀ s, zb4 c s ≠ []
 | [] => by simp [zb4]
 | x :: s => by
   unfold zb4
   split
   · simp
   · split <;> simp
theorem zif {c : UInt8} : ∀ {s : List UInt8} {m : Nat}, (∀ k, k < m -> s[k]? ≠ some c) -> s[m]? = some c -> zb4 c s = s.take m :: zb4 c (s.drop (m + 1))
 | [], m, _, h => by simp at h
 | x :: s, 0, _, h => by
   simp at h; subst h
   simp [zb4]
 | x :: s, m + 1, h0, h => by
   have hx : x ≠ c := by
     have := h0 0 (by omega)
     intro e; subst e; simp at this
   have ih := zif (s := s) (m := m) (fun k hk => by have := h0 (k + 1) (by omega); simpa using this) (by simpa using h)
   rw [zb4, if_neg hx, ih]
   simp
theorem zf9 {c : UInt8} : ∀ {s : List UInt8}, (∀ k : Nat, s[k]? ≠ some c) -> zb4 c s = [s]
 | [], _ => rfl
 | x :: s, h0 => by
   have hx : x ≠ c := by
     have := h0 0
     intro e; subst e; simp at this
   have ih := zf9 (s := s) (fun k => by have := h0 (k + 1); simpa using this)
   rw [zb4, if_neg hx, ih]
theorem zb1 (c : UInt8) : ∀ s : List UInt8, (zb4 c s).length = s.count c + 1
 | [] => by simp [zb4]
 | x :: s => by
   have ih := zb1 c s
   unfold zb4
   by_cases hx : x = c
   · rw [if_pos hx, List.length_cons, ih, hx, List.count_cons_self]
   · rw [if_neg hx, List.count_cons_of_ne (fun e => hx e)]
     cases hs : zb4 c s with
     | nil => exact absurd hs (zpw c s)
     | cons y r => rw [hs] at ih; simpa using ih
theorem ycg {s : List UInt8} {c : UInt8} (h : Lib.indexByte s c < 0) : ∀ k : Nat, s[k]? ≠ some c := by
 have := Lib.indexByte_ge s c
 exact Lib.indexByte_none (by omega)
theorem zqs {s : List UInt8} {c : UInt8} (h : ¬ Lib.indexByte s c < 0) : s[(Lib.indexByte s c).toNat]? = some c /\ (∀ k, k < (Lib.indexByte s c).toNat -> s[k]? ≠ some c) /\ (Lib.indexByte s c).toNat < s.length := by
 obtain ⟨o, ho⟩ : ∃ o : Nat, Lib.indexByte s c = o := ⟨(Lib.indexByte s c).toNat, by omega⟩
 have h1 := Lib.indexByte_some ho
 have e : (Lib.indexByte s c).toNat = o := by omega
 rw [e]
 exact ⟨h1.1, h1.2, (List.getElem?_eq_some_iff.1 h1.1).1⟩
theorem ys6 (s : List UInt8) (c : UInt8) : -1 <= Lib.indexByte s c /\ Lib.indexByte s c <= s.length := by
 have h0 := Lib.indexByte_ge s c
 by_cases h : Lib.indexByte s c < 0
 · omega
 · have := (zqs h).2.2; omega
def by1 (sep : List UInt8) : UInt8 := sep.headD 0
def zsu (sep : List UInt8) : Prop := sep.length = 1
theorem zst {sep : List UInt8} (h : zsu sep) : sep = [by1 sep] := by
 match sep, h with
 | [c], _ => rfl
def zjo (s sep : List UInt8) : Int := Lib.indexByte s (by1 sep)
def cntZ (s sep : List UInt8) : Int := s.count (by1 sep)
def zam (s sep : List UInt8) : List (List UInt8) := zb4 (by1 sep) s
def zhz (l : List (List UInt8)) : Nat := l.length
def yem (L : zaa) (l : List (List UInt8)) : AV := .lst 1 (L zhz l) (fun i _ => .str (L2 L zca l i))
def yn0 (L : zaa) : zbg := (184, fun xs => match xs with | [.str s, .str sep] => some (L zsu sep, .int .i64 (L2 L zjo s sep)) | _ => none)
def yn4 (L : zaa) : zbg := (207, fun xs => match xs with | [.str s, .str sep] => some (L zsu sep, .int .i64 (L2 L zjo s sep)) | _ => none)
def yo0 (L : zaa) : zbg := (206, fun xs => match xs with | [.str s, .str sep] => some (L zsu sep, .int .i64 (L2 L cntZ s sep)) | _ => none)
theorem yh8 : zaz Tryz.prog (yn0 std) := by
 intro xs p r h hp
 dsimp only [yn0] at h |-
 split at h <;> cases h
 try simp only [L2, L3, std] at hp |-
 rename_i s sep
 have h1 := zst (show zsu sep from hp)
 rw [h1]
 refine zej (fn := Tryz.f184) rfl rfl (by kernel_rfl) (zyq (zcy _) (zcy _)) (ymt _ _) (fun w => (Tryz.strings_Index_one ⟨s.toArray⟩ (by1 sep) w).mono ?_)
 rintro e w' ⟨rfl, rfl⟩
 exact ⟨rfl, Below.refl _ _⟩
theorem yhb : zaz Tryz.prog (yn4 std) := by
 intro xs p r h hp
 dsimp only [yn4] at h |-
 split at h <;> cases h
 try simp only [L2, L3, std] at hp |-
 rename_i s sep
 have h1 := zst (show zsu sep from hp)
 rw [h1]
 refine zej (fn := Tryz.f207) rfl rfl (by kernel_rfl) (zyq (zcy _) (zcy _)) (ymt _ _) (fun w => (Tryz.stringslite_Index_one ⟨s.toArray⟩ (by1 sep) w).mono ?_)
 rintro e w' ⟨rfl, rfl⟩
 exact ⟨rfl, Below.refl _ _⟩
theorem yi4 : zaz Tryz.prog (yo0 std) := by
 intro xs p r h hp
 dsimp only [yo0] at h |-
 split at h <;> cases h
 try simp only [L2, L3, std] at hp |-
 rename_i s sep
 have h1 := zst (show zsu sep from hp)
 rw [h1]
 refine zej (fn := Tryz.f206) rfl rfl (by kernel_rfl) (zyq (zcy _) (zcy _)) (ymt _ _) (fun w => (Tryz.strings_Count_one ⟨s.toArray⟩ (by1 sep) w).mono ?_)
 rintro e w' ⟨rfl, rfl⟩
 exact ⟨rfl, Below.refl _ _⟩
def yhz (s sep : List UInt8) : List UInt8 := if zjo s sep < 0 then s else s.take (zjo s sep).toNat
def ydi (s sep : List UInt8) : List UInt8 := if zjo s sep < 0 then [] else s.drop ((zjo s sep).toNat + 1)
def yt0 (s sep : List UInt8) : Bool := decide (0 <= zjo s sep)
def ydg (L : zaa) : zbg := (195, fun xs => match xs with | [.str s, .str sep] => some (L zsu sep /\ L2 L upto 1000000000 s, .tup [.str (L2 L yhz s sep), .str (L2 L ydi s sep), .bool (L2 L yt0 s sep)]) | _ => none)
def ynu (L : zaa) : zbg := (171, fun xs => match xs with | [.str s, .str sep] => some (L zsu sep /\ L2 L upto 1000000000 s, .tup [.str (L2 L yhz s sep), .str (L2 L ydi s sep), .bool (L2 L yt0 s sep)]) | _ => none)
theorem ydh : zaz Tryz.prog (ydg std) := by
 intro xs p r h hp
 dsimp only [ydg] at h |-
 split at h <;> cases h
 try simp only [L2, L3, std] at hp |-
 rename_i s sep
 obtain ⟨p1, p2⟩ : zsu sep /\ s.length <= 1000000000 := hp
 refine zac (T := tt) (S := fun L => zao [yn4 L]) (lo := noA) (lb := noA) 5 (fn := Tryz.f195) rfl rfl (by kernel_rfl) (by kernel_rfl) rfl zab (za3 ⟨yhb, trivial⟩) (by kernel_rfl) ?_
 (intro L P1 Q1 hL hP hQ; cbv; subst hL; simp only [L2, L3, std, syT]; subst hQ)
 (simp only [syS, reduceCtorEq, Int.reduceToNat, Int.reduceAdd, Int.reduceSub])
 have hl := ys6 s (by1 sep)
 refine ⟨p1, fun h => ?_, fun h => ?_⟩
 · have := (zqs (c := by1 sep) (s := s) (by show ¬ zjo s sep < 0; omega)).2.2
   have e0 : ¬ zjo s sep < 0 := by omega
   have e1 : (sep.length : Int) = 1 := by rw [p1]; rfl
   have hl : -1 <= zjo s sep /\ zjo s sep <= s.length := hl
   have this : (zjo s sep).toNat < s.length := this
   rw [e1, show (zjo s sep + 1 + 9223372036854775808) % 18446744073709551616 - 9223372036854775808 = zjo s sep + 1 by omega]
   refine ⟨by omega, by omega, (if_neg e0).symm, ?_, (decide_eq_true h).symm⟩
   rw [ydi, if_neg e0, show (zjo s sep + 1).toNat = (zjo s sep).toNat + 1 by omega]
 · exact ⟨(if_pos (by omega)).symm, (if_pos (by omega)).symm, (decide_eq_false (by omega)).symm⟩
theorem yhw : zaz Tryz.prog (ynu std) := by
 intro xs p r h hp
 dsimp only [ynu] at h |-
 split at h <;> cases h
 try simp only [L2, L3, std] at hp |-
 rename_i s sep
 obtain ⟨p1, p2⟩ : zsu sep /\ s.length <= 1000000000 := hp
 refine zac (T := tt) (S := fun L => zao [ydg L]) (lo := noA) (lb := noA) 5 (fn := Tryz.f171) rfl rfl (by kernel_rfl) (by kernel_rfl) rfl zab (za3 ⟨ydh, trivial⟩) (by kernel_rfl) ?_
 (intro L P1 Q1 hL hP hQ; cbv; subst hL; simp only [L2, L3, std, syT]; subst hQ)
 (simp only [syS, reduceCtorEq, Int.reduceToNat, Int.reduceAdd, Int.reduceSub])
 exact ⟨p1, p2⟩
def zfd (c : UInt8) (s : List UInt8) : Nat -> List UInt8
 | 0 => s
 | i + 1 => (zfd c s i).drop ((Lib.indexByte (zfd c s i) c).toNat + 1)
theorem zhc (c : UInt8) (s : List UInt8) : ∀ i, i <= s.count c -> zb4 c (zfd c s i) = (zb4 c s).drop i /\ (zfd c s i).length <= s.length
 | 0, _ => by simp [zfd]
 | i + 1, h => by
   obtain ⟨ih, hl⟩ := zhc c s i (by omega)
   have hlen := congrArg List.length ih
   rw [zb1, List.length_drop, zb1] at hlen
   have hn : ¬ Lib.indexByte (zfd c s i) c < 0 := by
     intro hn
     have h0 := zf9 (ycg hn)
     have := congrArg List.length h0
     rw [zb1] at this
     simp at this
     omega
   obtain ⟨h1, h2, h3⟩ := zqs hn
   have e := zif h2 h1
   rw [ih] at e
   have e2 := congrArg (List.drop 1) e
   rw [List.drop_drop, List.drop_succ_cons, List.drop_zero] at e2
   refine ⟨by rw [zfd, <- e2], ?_⟩
   rw [zfd, List.length_drop]; omega
theorem zoe {c : UInt8} {s : List UInt8} {i : Nat} (h : i < s.count c) : 0 <= Lib.indexByte (zfd c s i) c /\ (Lib.indexByte (zfd c s i) c).toNat < (zfd c s i).length /\ zca (zb4 c s) i = (zfd c s i).take (Lib.indexByte (zfd c s i) c).toNat := by
 obtain ⟨ih, hl⟩ := zhc c s i (by omega)
 have hlen := congrArg List.length ih
 rw [zb1, List.length_drop, zb1] at hlen
 have hn : ¬ Lib.indexByte (zfd c s i) c < 0 := by
   intro hn
   have h0 := zf9 (ycg hn)
   have := congrArg List.length h0
   rw [zb1] at this
   simp at this
   omega
 obtain ⟨h1, h2, h3⟩ := zqs hn
 refine ⟨by omega, h3, ?_⟩
 have e := zif h2 h1
 rw [ih] at e
 have hlt : i < (zb4 c s).length := by rw [zb1]; omega
 rw [zca, List.getD_eq_getElem?_getD, List.getElem?_eq_getElem hlt]
 rw [List.drop_eq_getElem_cons hlt] at e
 exact (List.cons.inj e).1
theorem yam (c : UInt8) (s : List UInt8) : zca (zb4 c s) (s.count c) = zfd c s (s.count c) := by
 obtain ⟨ih, hl⟩ := zhc c s (s.count c) (Nat.le_refl _)
 have hlen := congrArg List.length ih
 rw [zb1, List.length_drop, zb1] at hlen
 have hc : (zfd c s (s.count c)).count c = 0 := by omega
 have h0 : zb4 c (zfd c s (s.count c)) = [zfd c s (s.count c)] := zf9 (fun k hk => by
   have := List.count_pos_iff.2 (List.mem_of_getElem? hk)
   omega)
 rw [h0] at ih
 have hlt : s.count c < (zb4 c s).length := by rw [zb1]; omega
 rw [zca, List.getD_eq_getElem?_getD, List.getElem?_eq_getElem hlt]
 rw [List.drop_eq_getElem_cons hlt] at ih
 exact (List.cons.inj ih).1.symm
def zgp (s sep : List UInt8) (i : Nat) : List UInt8 := zfd (by1 sep) s i
def zyd (s sep : List UInt8) (i j : Nat) : List UInt8 := if j < i then zca (zam s sep) j else []
def cntB (s sep : List UInt8) : Nat := s.count (by1 sep)
theorem yt3 (s sep : List UInt8) : cntB s sep <= s.length := List.count_le_length
def splA (L : zaa) (s sep : List UInt8) : Nat -> St -> Option Ann := fun id st => match id with
 | 0 => some ⟨Nat, fun i => [(0, .str (L3 L zgp s sep i)), (10, .int .i64 (L zav i)), (9, .sl 900 1 0 (L (fun n : Nat => n + 1) (L2 L cntB s sep))), (3, .int .i64 (L zav (L2 L cntB s sep)))],
     fun i => [(900, .row 9 1 (L (fun n : Nat => n + 1) (L2 L cntB s sep)) (fun j _ => .str (L (L3 L zyd s sep i) j)))], [1, 2], [],
     fun i => L3 L (fun s sep i => i <= cntB s sep) s sep i, fun i => L3 L (fun s sep i => cntB s sep - i) s sep i⟩
 | _ => none
theorem yjc (q : Nat) (v : List UInt8) (f : Nat -> List UInt8) (i j : Nat) (h : j < 1) : over std q 0 1 [.str v] (fun i _ => .str (f i)) i j = .str (if i = q then v else f i) := by
 have : j = 0 := by omega
 subst this
 rw [zon, if_pos ⟨Nat.le_refl _, by omega⟩]
 by_cases h : i = q
 · subst h; simp [za8, zia, L3, std, zbq]
 · simp [zar h, zia, L3, std, zbq, h]
def nev (f : Nat) : zbg := (f, fun _ => some (False, .dead))
theorem ygb (f : Nat) : zaz Tryz.prog (nev f) := by
 intro xs p r h hp
 cases h
 exact hp.elim
def yn8 (L : zaa) : zbg := (182, fun xs => match xs with
 | [.str s, .str sep, .int .i64 a, .int .i64 b] => some (L zsu sep /\ L2 L upto 1000000000 s /\ L2 L (fun a b : Int => a = 0 /\ b = -1) a b, yem L (L2 L zam s sep))
 | _ => none)
theorem yhf : zaz Tryz.prog (yn8 std) := by
 intro xs p r h hp
 dsimp only [yn8] at h |-
 split at h <;> cases h
 try simp only [L2, L3, std] at hp |-
 rename_i s sep a b
 obtain ⟨p1, p2, rfl, rfl⟩ : zsu sep /\ s.length <= 1000000000 /\ a = 0 /\ b = -1 := hp
 refine zac (T := tt) (S := fun L => zao [yn0 L, yo0 L, nev 205]) (lo := fun L => splA L s sep) (lb := noA) 5 (fn := Tryz.f182) rfl rfl (by kernel_rfl) (by kernel_rfl) rfl zab (za3 ⟨yh8, yi4, ygb _, trivial⟩) (by kernel_rfl) ?_
 intro L P' Q' hL hP hQ
 (cbv; try simp only [syT, true_and, and_true])
 have hc : cntZ s sep = (cntB s sep : Int) := rfl
 have hle := yt3 s sep
 have hsep : sep ≠ [] := fun e => by rw [e] at p1; cases p1
 refine ⟨fun h => ?_, fun h1 => ⟨fun h => ?_, fun h2 => ⟨fun h3 => ⟨?_, ?_, ⟨0, ?_⟩, fun i hi => ?_⟩, fun h3 => ?_⟩⟩⟩
 · (subst hL; subst hQ; simp only [L2, L3, std] at *; try simp only [syS, reduceCtorEq, Int.reduceToNat, Int.reduceAdd, Int.reduceSub] at *)
 · (subst hL; subst hQ; simp only [L2, L3, std] at *; try simp only [syS, reduceCtorEq, Int.reduceToNat, Int.reduceAdd, Int.reduceSub] at *)
   exact absurd h hsep
 · (subst hL; subst hQ; simp only [L2, L3, std] at *; try simp only [syS, reduceCtorEq, Int.reduceToNat, Int.reduceAdd, Int.reduceSub] at *)
   exact p1
 · (subst hL; subst hQ; simp only [L2, L3, std] at *; try simp only [syS, reduceCtorEq, Int.reduceToNat, Int.reduceAdd, Int.reduceSub] at *)
   rw [hc]
   omega
 · (cbv; try simp only [syT, true_and, and_true])
   (subst hL; subst hQ; simp only [L2, L3, std] at *; try simp only [syS, reduceCtorEq, Int.reduceToNat, Int.reduceAdd, Int.reduceSub] at *)
   rw [hc, show min (((cntB s sep : Nat) + 1 + 9223372036854775808 : Int) % 18446744073709551616 - 9223372036854775808) (((s.length : Nat) + 1 + 9223372036854775808 : Int) % 18446744073709551616 - 9223372036854775808) = (cntB s sep : Nat) + 1 by omega]
   refine ⟨⟨by omega, fun k j hk hj => ?_⟩, by omega, by omega, rfl, Nat.zero_le _⟩
   rw [zyd, if_neg (by omega)]
   match j, hj with
   | 0, _ => rfl
 · cbv at hi
   (cbv; try simp only [syT, true_and, and_true])
   refine ⟨fun h4 => ⟨?_, fun h5 => ?_, fun h5 => ⟨?_, ?_, ?_, i + 1, ?_⟩⟩, fun h4 => ⟨?_, ?_, ?_⟩⟩
   · (subst hL; subst hQ; simp only [L2, L3, std] at *; try simp only [syS, reduceCtorEq, Int.reduceToNat, Int.reduceAdd, Int.reduceSub] at *)
     exact p1
   · (subst hL; subst hQ; simp only [L2, L3, std] at *; try simp only [syS, reduceCtorEq, Int.reduceToNat, Int.reduceAdd, Int.reduceSub] at *)
     obtain ⟨r1, r2, r3⟩ := zoe (c := by1 sep) (s := s) (i := i) (show i < cntB s sep by omega)
     exfalso
     have h5 : Lib.indexByte (zfd (by1 sep) s i) (by1 sep) < 0 := h5
     omega
   · (subst hL; subst hQ; simp only [L2, L3, std] at *; try simp only [syS, reduceCtorEq, Int.reduceToNat, Int.reduceAdd, Int.reduceSub] at *)
     obtain ⟨r1, r2, r3⟩ := zoe (c := by1 sep) (s := s) (i := i) (show i < cntB s sep by omega)
     obtain ⟨q1, q2⟩ := zhc (by1 sep) s i hi
     have r1 : 0 <= zjo (zgp s sep i) sep := r1
     have r2 : (zjo (zgp s sep i) sep).toNat < (zgp s sep i).length := r2
     have q2 : (zgp s sep i).length <= s.length := q2
     omega
   · (subst hL; subst hQ; simp only [L2, L3, std] at *; try simp only [syS, reduceCtorEq, Int.reduceToNat, Int.reduceAdd, Int.reduceSub] at *)
     omega
   · (subst hL; subst hQ; simp only [L2, L3, std] at *; try simp only [syS, reduceCtorEq, Int.reduceToNat, Int.reduceAdd, Int.reduceSub] at *)
     obtain ⟨r1, r2, r3⟩ := zoe (c := by1 sep) (s := s) (i := i) (show i < cntB s sep by omega)
     obtain ⟨q1, q2⟩ := zhc (by1 sep) s i hi
     have r1 : 0 <= zjo (zgp s sep i) sep := r1
     have r2 : (zjo (zgp s sep i) sep).toNat < (zgp s sep i).length := r2
     have q2 : (zgp s sep i).length <= s.length := q2
     have e1 : (sep.length : Int) = 1 := by rw [p1]; rfl
     omega
   · (cbv; try simp only [syT, true_and, and_true])
     (subst hL; subst hQ; simp only [L2, L3, std] at *; try simp only [syS, reduceCtorEq, Int.reduceToNat, Int.reduceAdd, Int.reduceSub] at *)
     obtain ⟨r1, r2, r3⟩ := zoe (c := by1 sep) (s := s) (i := i) (show i < cntB s sep by omega)
     obtain ⟨q1, q2⟩ := zhc (by1 sep) s i hi
     have r1 : 0 <= zjo (zgp s sep i) sep := r1
     have r2 : (zjo (zgp s sep i) sep).toNat < (zgp s sep i).length := r2
     have q2 : (zgp s sep i).length <= s.length := q2
     have e1 : (sep.length : Int) = 1 := by rw [p1]; rfl
     refine ⟨fun k j hk hj => ?_, by omega, ?_, by omega, by omega⟩
     · rw [yjc _ _ _ _ _ hj]
       congr 1
       by_cases hki : k = i
       · subst hki
         rw [if_pos rfl, zyd, if_pos (by omega), show (zjo (zgp s sep k) sep + 0 + 9223372036854775808) % 18446744073709551616 - 9223372036854775808 = zjo (zgp s sep k) sep by omega]
         exact r3.symm
       · rw [if_neg hki, zyd, zyd]
         by_cases hlt : k < i
         · rw [if_pos hlt, if_pos (by omega)]
         · rw [if_neg hlt, if_neg (by omega)]
     · rw [e1, show ((zjo (zgp s sep i) sep + 1 + 9223372036854775808) % 18446744073709551616 - 9223372036854775808).toNat = (zjo (zgp s sep i) sep).toNat + 1 by omega]
       rfl
   · (subst hL; subst hQ; simp only [L2, L3, std] at *; try simp only [syS, reduceCtorEq, Int.reduceToNat, Int.reduceAdd, Int.reduceSub] at *)
     omega
   · (subst hL; subst hQ; simp only [L2, L3, std] at *; try simp only [syS, reduceCtorEq, Int.reduceToNat, Int.reduceAdd, Int.reduceSub] at *)
     omega
   · (subst hL; subst hQ; simp only [L2, L3, std] at *; try simp only [syS, reduceCtorEq, Int.reduceToNat, Int.reduceAdd, Int.reduceSub] at *)
     have hi' : i = cntB s sep := by omega
     subst hi'
     rw [show ((cntB s sep : Nat) + 1 + 9223372036854775808 : Int) % 18446744073709551616 - 9223372036854775808 = ((cntB s sep + 1 : Nat) : Int) by omega, Int.toNat_natCast]
     show zic (.lst 1 (zb4 (by1 sep) s).length _) _
     rw [zex, zb1]
     refine ⟨rfl, fun k j hk hj => ?_⟩
     rw [yjc _ _ _ _ _ hj]
     congr 1
     by_cases hki : k = cntB s sep
     · rw [if_pos hki, hki]; exact (yam _ _).symm
     · have hk : k < cntB s sep + 1 := hk
       rw [if_neg hki, zyd, if_pos (by omega)]
       rfl
 · (subst hL; subst hQ; simp only [L2, L3, std] at *; try simp only [syS, reduceCtorEq, Int.reduceToNat, Int.reduceAdd, Int.reduceSub] at *)
   exact absurd h3 (by decide)
def yf3 (L : zaa) : zbg := (143, fun xs => match xs with | [.str s, .str sep] => some (L zsu sep /\ L2 L upto 1000000000 s, yem L (L2 L zam s sep)) | _ => none)
theorem zug : zaz Tryz.prog (yf3 std) := by
 intro xs p r h hp
 dsimp only [yf3] at h |-
 split at h <;> cases h
 try simp only [L2, L3, std] at hp |-
 rename_i s sep
 obtain ⟨p1, p2⟩ : zsu sep /\ s.length <= 1000000000 := hp
 refine zac (T := tt) (S := fun L => zao [yn8 L]) (lo := noA) (lb := noA) 5 (fn := Tryz.f143) rfl rfl (by kernel_rfl) (by kernel_rfl) rfl zab (za3 ⟨yhf, trivial⟩) (by kernel_rfl) ?_
 (intro L P1 Q1 hL hP hQ; cbv; subst hL; simp only [L2, L3, std, syT]; subst hQ)
 (simp only [syS, reduceCtorEq, Int.reduceToNat, Int.reduceAdd, Int.reduceSub])
 refine ⟨⟨p1, p2⟩, ?_⟩
 show zic (.lst 1 (zhz (zam s sep)) _) _
 rw [zex]
 exact ⟨rfl, fun i j hi hj => rfl⟩
def toS : AV -> List UInt8
 | .str s => s
 | _ => []
def zcj (n : Nat) (get : Nat -> Nat -> AV) : List (List UInt8) := (List.range n).map fun i => toS (get i 0)
def jnZ (sep : List UInt8) (x : AV) : List UInt8 := match x with
 | .lst _ n get => Lib.join (zcj n get) sep
 | _ => []
def yu5 (sep : List UInt8) (x : AV) : Prop := match x with
 | .lst 1 n get => (∀ i, i < n -> ∃ s, get i 0 = .str s) /\ n <= 1000000 /\ (Lib.join (zcj n get) sep).length <= 140737488355328
 | .nils => True
 | _ => False
def yu4 (L : zaa) : zbg := (88, fun xs => match xs with | [x, .str sep] => some (L2 L yu5 sep x, .str (L2 L jnZ sep x)) | _ => none)
theorem ytk {h : Array Obj} {D : Nat -> Prop} {x y : AV} {vs : Array Value} (hr : RL h D zax [x, y] vs) : ∃ a b, vs = #[a, b] /\ R h D zax x a /\ R h D zax y b := by
 obtain ⟨hl, hr⟩ := hr
 obtain ⟨a, b, ha⟩ : ∃ a b, vs.toList = [a, b] := by
   have hl : vs.toList.length = 2 := by simpa using hl.symm
   match vs.toList, hl with
   | [a, b], _ => exact ⟨a, b, rfl⟩
 have : vs = #[a, b] := by rw [<- Array.toArray_toList (xs := vs), ha]
 subst this
 exact ⟨a, b, rfl, hr 0 x a rfl rfl, hr 1 y b rfl rfl⟩
theorem yc7 : zaz Tryz.prog (yu4 std) := by
 intro xs p r h hp
 dsimp only [yu4] at h |-
 split at h <;> cases h
 try simp only [L2, L3, std] at hp |-
 rename_i x sep
 have hp : yu5 sep x := hp
 intro D w vs hD hxs hg
 obtain ⟨a, b, rfl, rx, ry⟩ := ytk hxs
 obtain rfl := zzm ry
 unfold zgg
 rw [zcv (fn := Tryz.f88) rfl (by kernel_rfl) rfl]
 have fin : ∀ (l : List UInt8), l = jnZ sep x -> (∀ w', Below w.heap.size w w' -> ∃ v D', Ending.returned (.string ⟨l.toArray⟩) = .returned v /\ Below w.heap.size w w' /\ (∀ b, D b -> D' b) /\ (∀ b, D' b -> D b \/ (w.heap.size <= b /\ b < w'.heap.size)) /\ R w'.heap D' zax (.str (jnZ sep x)) v) := by
   rintro l rfl w' hw
   exact ⟨_, D, rfl, hw, fun _ h => h, fun b hb => .inl hb, yf2 _ _ _ _⟩
 have none_ : jnZ sep x = [] -> ∀ (a : Option Addr) (c : Nat), Calls Tryz.prog 88 #[.slice a 0 c, .string ⟨sep.toArray⟩] w fun e w' => ∃ v D', e = .returned v /\ Below w.heap.size w w' /\ (∀ b, D b -> D' b) /\ (∀ b, D' b -> D b \/ (w.heap.size <= b /\ b < w'.heap.size)) /\ R w'.heap D' zax (.str (jnZ sep x)) v := by
   intro h0 a c
   refine (Tryz.strings_Join_none a c ⟨sep.toArray⟩ w).mono ?_
   rintro e w' ⟨rfl, rfl⟩
   exact fin [] h0.symm _ (Below.refl _ _)
 unfold yu5 at hp
 split at hp
 · rename_i n get _
   obtain ⟨h1, h2, h3⟩ := hp
   cases rx with
   | lst0 => exact none_ rfl _ _
   | lst _ _ _ b o cap us hD0 hc hv h1' hr =>
     have hl : (zcj n get).length = n := by rw [zcj, List.length_map, List.length_range]
     have hq : ∀ j x, ((zcj n get).map (fun s : List UInt8 => (⟨s.toArray⟩ : ByteArray)))[j]? = some x -> w.cell? ⟨b, o + j, none⟩ = some (.string x) := by
       intro j x hj
       have hjn : j < n := by
         have := (List.getElem?_eq_some_iff.1 hj).1
         rw [List.length_map, hl] at this
         exact this
       obtain ⟨s, hs⟩ := h1 j hjn
       have r := hr j 0 hjn (by omega)
       rw [hs] at r
       have hv := hv j 0 hjn (by omega)
       rw [zzm r, Nat.mul_one, Nat.add_zero] at hv
       rw [zm7, hv]
       have e2 : (zcj n get)[j]? = some s := by rw [zcj, List.getElem?_map, List.getElem?_range hjn, Option.map_some, hs]; rfl
       rw [List.getElem?_map, e2] at hj
       cases hj
       rfl
     have hm : ((zcj n get).map (fun s : List UInt8 => (⟨s.toArray⟩ : ByteArray))).map (·.data.toList) = zcj n get := by
       rw [List.map_map]
       exact List.map_id' _
     have := Tryz.strings_Join b o cap ((zcj n get).map (fun s : List UInt8 => (⟨s.toArray⟩ : ByteArray))) ⟨sep.toArray⟩ w hq (hD b hD0) (by rw [List.length_map, hl]; omega) (by rw [List.length_map, hl]; exact hc) (by rw [hm]; exact h3)
     rw [hm, List.length_map, hl] at this
     refine this.mono ?_
     rintro e w' ⟨rfl, hw⟩
     exact fin _ rfl _ hw
 · cases rx
   exact none_ rfl _ _
 · exact hp.elim
def zt3 (c : Int) : Bool := decide (97 <= c) && decide (c <= 122)
def yja (c : Int) : Bool := zt3 c || (decide (48 <= c) && decide (c <= 57))
def zv2 (c : Int) : Bool := yja c || (decide (c = 45) || decide (c = 95))
def zki (L : zaa) : zbg := (176, fun xs => match xs with
 | [.int .u8 c] => some (True, .bool (L zt3 c))
 | _ => none)
theorem zls : zaz Tryz.prog (zki std) := by
 intro xs p r h hp
 dsimp only [zki] at h |-
 split at h <;> cases h
 try simp only [L2, L3, std] at hp |-
 rename_i c
 refine zac (T := tt) (S := noS) (lo := noA) (lb := noA) 5 (fn := Tryz.f176) rfl rfl (by kernel_rfl) (by kernel_rfl) rfl zab (zbh _) (by kernel_rfl) ?_
 (intro L P1 Q1 hL hP hQ; cbv; subst hL; simp only [L2, L3, std, syT]; subst hQ)
 (simp only [syS, reduceCtorEq, Int.reduceToNat, Int.reduceAdd, Int.reduceSub])
 unfold zt3 ile
 refine ⟨fun h => by simp [h], fun h => ?_⟩
 rw [decide_eq_false (by omega)]; rfl
def zol (L : zaa) : zbg := (177, fun xs => match xs with
 | [.int .u8 c] => some (True, .bool (L yja c))
 | _ => none)
theorem zn7 : zaz Tryz.prog (zol std) := by
 intro xs p r h hp
 dsimp only [zol] at h |-
 split at h <;> cases h
 try simp only [L2, L3, std] at hp |-
 rename_i c
 refine zac (T := tt) (S := fun L => zao [zki L]) (lo := noA) (lb := noA) 5 (fn := Tryz.f177) rfl rfl (by kernel_rfl) (by kernel_rfl) rfl zab (za3 ⟨zls, trivial⟩) (by kernel_rfl) ?_
 (intro L P1 Q1 hL hP hQ; cbv; subst hL; simp only [L2, L3, std, syT]; subst hQ)
 (simp only [syS, reduceCtorEq, Int.reduceToNat, Int.reduceAdd, Int.reduceSub])
 unfold yja ile
 refine ⟨fun h => by simp [h], fun h => ⟨fun h2 => by simp [h, h2], fun h2 => ?_⟩⟩
 rw [h, decide_eq_false (show ¬ 48 <= c by omega)]; rfl
def zw7 (f : Int -> Bool) (s : List UInt8) : Bool := s.all fun b => f (b.toNat : Int)
def zk8 (f : Int -> Bool) (s : List UInt8) (i : Nat) : Prop := i <= s.length /\ ∀ k, k < i -> f (za9 s k) = true
def toC (s : List UInt8) (i : Nat) : Nat := s.length - i
theorem zfq {s : List UInt8} {i : Nat} (h : i < s.length) : za9 s i = (s[i].toNat : Int) := by
 rw [za9, List.getD_eq_getElem?_getD, List.getElem?_eq_getElem h]; rfl
theorem ztk (f : Int -> Bool) (s : List UInt8) : zk8 f s 0 := ⟨Nat.zero_le _, fun k hk => by omega⟩
theorem zjs {f : Int -> Bool} {s : List UInt8} {i : Nat} (h : zk8 f s i) (hi : i < s.length) (hf : f (za9 s i) = true) : zk8 f s (i + 1) :=
 ⟨hi, fun k hk => by
   by_cases e : k = i
   · rw [e]; exact hf
   · exact h.2 k (by omega)⟩
theorem zfo {f : Int -> Bool} {s : List UInt8} {i : Nat} (h : zk8 f s i) (hi : s.length <= i) : zw7 f s = true := by
 unfold zw7
 rw [List.all_eq_true]
 intro b hb
 obtain ⟨k, hk, rfl⟩ := List.getElem_of_mem hb
 have := h.2 k (by omega)
 rw [zfq hk] at this
 exact this
theorem zjt {f : Int -> Bool} {s : List UInt8} {i : Nat} (hi : i < s.length) (hf : f (za9 s i) = false) : zw7 f s = false := by
 unfold zw7
 rw [List.all_eq_false]
 refine ⟨s[i], List.getElem_mem hi, ?_⟩
 rw [zfq hi] at hf
 simp [hf]
def zfj (s : List UInt8) : Bool := !decide (s = []) && (!decide (32 < s.length) && (zt3 (za9 s 0) && zw7 zv2 s))
def zv1 (L : zaa) : zbg := (137, fun xs => match xs with
 | [.str s] => some (True, .bool (L zfj s))
 | _ => none)
def yvl (L : zaa) (s : List UInt8) : Nat -> St -> Option Ann := fun id st => match id with
 | 0 => some ⟨Nat, fun i => [(19, .int .i64 (L zav i))], fun i => [], [0, 18], [], fun i => L (L2 L zk8 zv2 s) i, fun i => L2 L toC s i⟩
 | _ => none
theorem zqj : zaz Tryz.prog (zv1 std) := by
 intro xs p r h hp
 dsimp only [zv1] at h |-
 split at h <;> cases h
 try simp only [L2, L3, std] at hp |-
 rename_i s
 refine za2 (T := tt) (S := fun L => zao [zki L, zol L]) (lo := fun L => yvl L s) (lb := noA) 5 (fn := Tryz.f137) (xs := fun L => [.str s]) rfl rfl (by kernel_rfl) (by kernel_rfl) rfl zab (za3 ⟨zls, zn7, trivial⟩) (by kernel_rfl) ?_
 intro L P' Q' hL hP hQ
 (cbv; try simp only [syT, true_and, and_true])
 refine ⟨fun h => ?_, fun h1 => ⟨fun h => ?_, fun h2 => ⟨?_, fun h => ?_, fun h3 => ⟨⟨0, ?_⟩, fun i hi => ?_⟩⟩⟩⟩
 · (subst hL; subst hQ; simp only [L2, L3, std] at *; try simp only [syS, reduceCtorEq, Int.reduceToNat, Int.reduceAdd, Int.reduceSub] at *)
   rw [zfj, decide_eq_true h]; rfl
 · (subst hL; subst hQ; simp only [L2, L3, std] at *; try simp only [syS, reduceCtorEq, Int.reduceToNat, Int.reduceAdd, Int.reduceSub] at *)
   rw [zfj, decide_eq_true (show 32 < s.length by omega)]; simp
 · (subst hL; subst hQ; simp only [L2, L3, std] at *; try simp only [syS, reduceCtorEq, Int.reduceToNat, Int.reduceAdd, Int.reduceSub] at *)
   have : s.length ≠ 0 := fun h => h1 (List.eq_nil_of_length_eq_zero h)
   omega
 · (subst hL; subst hQ; simp only [L2, L3, std] at *; try simp only [syS, reduceCtorEq, Int.reduceToNat, Int.reduceAdd, Int.reduceSub] at *)
   rw [zfj, show zt3 (za9 s 0) = false from h]; simp
 · (cbv; try simp only [syT, true_and, and_true])
   (subst hL; subst hQ; simp only [L2, L3, std] at *; try simp only [syS, reduceCtorEq, Int.reduceToNat, Int.reduceAdd, Int.reduceSub] at *)
   exact ztk _ _
 · have hi2 : zk8 zv2 s i := by
     have h := hi
     rw [hL] at h
     exact h
   clear hi
   obtain ⟨hi3, hi4⟩ := hi2
   have g1 : ¬ s = [] := by
     rw [hL] at h1
     have h : seq s [] = false := h1
     simpa [seq] using h
   have g2 : ¬ 32 < s.length := by
     rw [hL] at h2
     have h : ilt 32 (s.length : Int) = false := h2
     rw [ycf] at h
     omega
   have g3 : zt3 (za9 s 0) = true := by
     rw [hL] at h3
     have h : (!zt3 (za9 s 0)) = false := h3
     simpa using h
   have g4 : zfj s = zw7 zv2 s := by
     rw [zfj, decide_eq_false g1, decide_eq_false g2, g3]; rfl
   clear h1 h2 h3
   (cbv; try simp only [syT, true_and, and_true])
   have hcb : L (L zhu s) (L zav i) = za9 s i := by subst hL; rfl
   rw [hcb]
   clear hcb
   have step : i < s.length -> zv2 (za9 s i) = true -> zk8 zv2 s (i + 1) /\ toC s (i + 1) + 1 <= toC s i := fun h1 h2 => ⟨zjs ⟨hi3, hi4⟩ h1 h2, by show s.length - (i + 1) + 1 <= s.length - i; omega⟩
   have bad : i < s.length -> zv2 (za9 s i) = false -> zfj s = false := fun h1 h2 => by rw [g4]; exact zjt h1 h2
   generalize za9 s i = c at step bad |-
   have hlt2 : L (L ilt (L zav i)) (L slen s) = true -> i < s.length := by
     intro h
     rw [hL] at h
     have h : ilt (i : Int) (s.length : Int) = true := h
     rw [ymy] at h
     omega
   refine ⟨fun hlt => ⟨?_, fun h1 => ⟨?_, fun h2 => ⟨?_, fun h3 => ?_, fun h3 => ⟨i + 1, ?_⟩⟩, fun h2 => ⟨i + 1, ?_⟩⟩, fun h1 => ⟨i + 1, ?_⟩⟩, fun hge => ?_⟩
   · (subst hL; subst hQ; simp only [L2, L3, std] at *; try simp only [syS, reduceCtorEq, Int.reduceToNat, Int.reduceAdd, Int.reduceSub] at *)
     omega
   · (subst hL; subst hQ; simp only [L2, L3, std] at *; try simp only [syS, reduceCtorEq, Int.reduceToNat, Int.reduceAdd, Int.reduceSub] at *)
     omega
   · (subst hL; subst hQ; simp only [L2, L3, std] at *; try simp only [syS, reduceCtorEq, Int.reduceToNat, Int.reduceAdd, Int.reduceSub] at *)
     omega
   · have hli := hlt2 hlt
     (subst hL; subst hQ; simp only [L2, L3, std] at *; try simp only [syS, reduceCtorEq, Int.reduceToNat, Int.reduceAdd, Int.reduceSub] at *)
     rw [bad hli (by simp [zv2, h1, h2, h3])]
   · have hli := hlt2 hlt
     (cbv; try simp only [syT, true_and, and_true])
     (subst hL; subst hQ; simp only [L2, L3, std] at *; try simp only [syS, reduceCtorEq, Int.reduceToNat, Int.reduceAdd, Int.reduceSub] at *)
     obtain ⟨k1, k2⟩ := step hli (by simp [zv2, h3])
     exact ⟨by omega, k1, k2⟩
   · have hli := hlt2 hlt
     (cbv; try simp only [syT, true_and, and_true])
     (subst hL; subst hQ; simp only [L2, L3, std] at *; try simp only [syS, reduceCtorEq, Int.reduceToNat, Int.reduceAdd, Int.reduceSub] at *)
     obtain ⟨k1, k2⟩ := step hli (by simp [zv2, h2])
     exact ⟨by omega, k1, k2⟩
   · have hli := hlt2 hlt
     (cbv; try simp only [syT, true_and, and_true])
     (subst hL; subst hQ; simp only [L2, L3, std] at *; try simp only [syS, reduceCtorEq, Int.reduceToNat, Int.reduceAdd, Int.reduceSub] at *)
     obtain ⟨k1, k2⟩ := step hli (by simp [zv2, h1])
     exact ⟨by omega, k1, k2⟩
   · (subst hL; subst hQ; simp only [L2, L3, std] at *; try simp only [syS, reduceCtorEq, Int.reduceToNat, Int.reduceAdd, Int.reduceSub] at *)
     rw [g4, zfo ⟨hi3, hi4⟩ (by omega)]
def zvi (c : Int) : Bool := yja c || decide (c = 45)
def zp1 (s : List UInt8) : Int := za9 s (s.length - 1)
def zck (s : List UInt8) : Bool := !decide (s = []) && (!decide (32 < s.length) && (!decide (za9 s 0 = 45) && (!decide (zp1 s = 45) && zw7 zvi s)))
def yba (L : zaa) : zbg := (144, fun xs => match xs with
 | [.str s] => some (True, .bool (L zck s))
 | _ => none)
def yvd (L : zaa) (s : List UInt8) : Nat -> St -> Option Ann := fun id st => match id with
 | 0 => some ⟨Nat, fun i => [(26, .int .i64 (L zav i))], fun i => [], [0, 25], [], fun i => L (L2 L zk8 zvi s) i, fun i => L2 L toC s i⟩
 | _ => none
theorem ybb : zaz Tryz.prog (yba std) := by
 intro xs p r h hp
 dsimp only [yba] at h |-
 split at h <;> cases h
 try simp only [L2, L3, std] at hp |-
 rename_i s
 refine za2 (T := tt) (S := fun L => zao [zol L]) (lo := fun L => yvd L s) (lb := noA) 5 (fn := Tryz.f144) (xs := fun L => [.str s]) rfl rfl (by kernel_rfl) (by kernel_rfl) rfl zab (za3 ⟨zn7, trivial⟩) (by kernel_rfl) ?_
 intro L P' Q' hL hP hQ
 (cbv; try simp only [syT, true_and, and_true])
 refine ⟨fun h => ?_, fun h1 => ⟨fun h => ?_, fun h2 => ⟨?_, fun h => ?_, fun h3 => ⟨?_, fun h => ?_, fun h4 => ⟨⟨0, ?_⟩, fun i hi => ?_⟩⟩⟩⟩⟩
 · (subst hL; subst hQ; simp only [L2, L3, std] at *; try simp only [syS, reduceCtorEq, Int.reduceToNat, Int.reduceAdd, Int.reduceSub] at *)
   rw [zck, decide_eq_true h]; rfl
 · (subst hL; subst hQ; simp only [L2, L3, std] at *; try simp only [syS, reduceCtorEq, Int.reduceToNat, Int.reduceAdd, Int.reduceSub] at *)
   rw [zck, decide_eq_true (show 32 < s.length by omega)]; simp
 · (subst hL; subst hQ; simp only [L2, L3, std] at *; try simp only [syS, reduceCtorEq, Int.reduceToNat, Int.reduceAdd, Int.reduceSub] at *)
   have : s.length ≠ 0 := fun h => h1 (List.eq_nil_of_length_eq_zero h)
   omega
 · (subst hL; subst hQ; simp only [L2, L3, std] at *; try simp only [syS, reduceCtorEq, Int.reduceToNat, Int.reduceAdd, Int.reduceSub] at *)
   rw [zck, decide_eq_true (show za9 s 0 = 45 from h)]; simp
 · (subst hL; subst hQ; simp only [L2, L3, std] at *; try simp only [syS, reduceCtorEq, Int.reduceToNat, Int.reduceAdd, Int.reduceSub] at *)
   have : s.length ≠ 0 := fun h => h1 (List.eq_nil_of_length_eq_zero h)
   omega
 · have hl : zp1 s = 45 := by
     rw [hL] at h h2
     have h2 : ilt 32 (s.length : Int) = false := h2
     rw [ycf] at h2
     have h : ieq (za9 s (Int.toNat (yk5 .i64 (s.length : Int) 1))) 45 = true := h
     rw [ys3] at h
     rw [<- h, zp1]
     congr 1
     simp only [yk5, yex]
     omega
   subst hQ
   refine (zr1 _ _).mpr ?_
   rw [zck, decide_eq_true hl]; simp
 · (cbv; try simp only [syT, true_and, and_true])
   (subst hL; subst hQ; simp only [L2, L3, std] at *; try simp only [syS, reduceCtorEq, Int.reduceToNat, Int.reduceAdd, Int.reduceSub] at *)
   exact ztk _ _
 · have hi2 : zk8 zvi s i := by
     have h := hi
     rw [hL] at h
     exact h
   clear hi
   obtain ⟨hi3, hi4⟩ := hi2
   have g1 : ¬ s = [] := by
     rw [hL] at h1
     have h : seq s [] = false := h1
     simpa [seq] using h
   have g2 : ¬ 32 < s.length := by
     rw [hL] at h2
     have h : ilt 32 (s.length : Int) = false := h2
     rw [ycf] at h
     omega
   have g3 : ¬ za9 s 0 = 45 := by
     rw [hL] at h3
     have h : ieq (za9 s 0) 45 = false := h3
     rw [ymz] at h
     exact h
   have g5 : ¬ zp1 s = 45 := by
     rw [hL] at h4
     have h : ieq (za9 s (Int.toNat (yk5 .i64 (s.length : Int) 1))) 45 = false := h4
     rw [ymz] at h
     intro h5
     apply h
     rw [<- h5, zp1]
     congr 1
     simp only [yk5, yex]
     omega
   have g4 : zck s = zw7 zvi s := by
     rw [zck, decide_eq_false g1, decide_eq_false g2, decide_eq_false g3, decide_eq_false g5]; rfl
   clear h1 h2 h3 h4
   (cbv; try simp only [syT, true_and, and_true])
   have hcb : L (L zhu s) (L zav i) = za9 s i := by subst hL; rfl
   rw [hcb]
   clear hcb
   have step : i < s.length -> zvi (za9 s i) = true -> zk8 zvi s (i + 1) /\ toC s (i + 1) + 1 <= toC s i := fun h1 h2 => ⟨zjs ⟨hi3, hi4⟩ h1 h2, by show s.length - (i + 1) + 1 <= s.length - i; omega⟩
   have bad : i < s.length -> zvi (za9 s i) = false -> zck s = false := fun h1 h2 => by rw [g4]; exact zjt h1 h2
   generalize za9 s i = c at step bad |-
   have hlt2 : L (L ilt (L zav i)) (L slen s) = true -> i < s.length := by
     intro h
     rw [hL] at h
     have h : ilt (i : Int) (s.length : Int) = true := h
     rw [ymy] at h
     omega
   refine ⟨fun hlt => ⟨?_, fun h1 => ⟨?_, fun h2 => ?_, fun h2 => ⟨i + 1, ?_⟩⟩, fun h1 => ⟨i + 1, ?_⟩⟩, fun hge => ?_⟩
   · (subst hL; subst hQ; simp only [L2, L3, std] at *; try simp only [syS, reduceCtorEq, Int.reduceToNat, Int.reduceAdd, Int.reduceSub] at *)
     omega
   · (subst hL; subst hQ; simp only [L2, L3, std] at *; try simp only [syS, reduceCtorEq, Int.reduceToNat, Int.reduceAdd, Int.reduceSub] at *)
     omega
   · have hli := hlt2 hlt
     (subst hL; subst hQ; simp only [L2, L3, std] at *; try simp only [syS, reduceCtorEq, Int.reduceToNat, Int.reduceAdd, Int.reduceSub] at *)
     rw [bad hli (by simp [zvi, h1, h2])]
   · have hli := hlt2 hlt
     (cbv; try simp only [syT, true_and, and_true])
     (subst hL; subst hQ; simp only [L2, L3, std] at *; try simp only [syS, reduceCtorEq, Int.reduceToNat, Int.reduceAdd, Int.reduceSub] at *)
     obtain ⟨k1, k2⟩ := step hli (by simp [zvi, h2])
     exact ⟨by omega, k1, k2⟩
   · have hli := hlt2 hlt
     (cbv; try simp only [syT, true_and, and_true])
     (subst hL; subst hQ; simp only [L2, L3, std] at *; try simp only [syS, reduceCtorEq, Int.reduceToNat, Int.reduceAdd, Int.reduceSub] at *)
     obtain ⟨k1, k2⟩ := step hli (by simp [zvi, h1])
     exact ⟨by omega, k1, k2⟩
   · (subst hL; subst hQ; simp only [L2, L3, std] at *; try simp only [syS, reduceCtorEq, Int.reduceToNat, Int.reduceAdd, Int.reduceSub] at *)
     rw [g4, zfo ⟨hi3, hi4⟩ (by omega)]
def yr1 (c : Int) : Bool := (decide (48 <= c) && decide (c <= 57)) || (decide (c = 45) || decide (c = 95))
def okN (s : List UInt8) (k : Nat) : Bool := zt3 (za9 s k) || (!decide (k = 0) && yr1 (za9 s k))
def zvn (s : List UInt8) (i : Nat) : Prop := i <= s.length /\ ∀ k, k < i -> okN s k = true
theorem ybn (c : Int) : zv2 c = (zt3 c || yr1 c) := by
 unfold zv2 yja yr1
 cases zt3 c <;> cases (decide (48 <= c) && decide (c <= 57)) <;> rfl
def okX (c : Int) (k : Nat) : Prop := (97 <= c /\ c <= 122) \/ (¬ k = 0 /\ ((48 <= c /\ c <= 57) \/ c = 45 \/ c = 95))
theorem yr3 {s : List UInt8} {k : Nat} : okN s k = true ↔ okX (za9 s k) k := by
 unfold okN okX zt3 yr1
 simp only [Bool.or_eq_true, Bool.and_eq_true, decide_eq_true_eq, Bool.not_eq_true', decide_eq_false_iff_not]
theorem yfq {s : List UInt8} {i : Nat} (hi : i < s.length) (h : okN s i = false) : zfj s = false := by
 unfold zfj
 have hl : zt3 (za9 s i) = false := by
   unfold okN at h
   simp only [Bool.or_eq_false_iff] at h
   exact h.1
 by_cases h0 : i = 0
 · subst h0
   rw [hl]; simp
 · have ho : yr1 (za9 s i) = false := by
     unfold okN at h
     simp only [Bool.or_eq_false_iff] at h
     have := h.2
     rw [decide_eq_false h0] at this
     simpa using this
   rw [zjt hi (by rw [ybn, hl, ho]; rfl)]; simp
theorem yaj {s : List UInt8} {i : Nat} (h : zvn s i) (hi : s.length <= i) : zfj s = (decide (0 < s.length) && decide (s.length <= 32)) := by
 unfold zfj
 by_cases h0 : s = []
 · rw [h0]; rfl
 have hp : 0 < s.length := by
   have : s.length ≠ 0 := fun h => h0 (List.eq_nil_of_length_eq_zero h)
   omega
 have hl : zt3 (za9 s 0) = true := by
   have := h.2 0 (by omega)
   unfold okN at this
   simpa using this
 have ha : zw7 zv2 s = true := by
   refine zfo (i := s.length) ⟨Nat.le_refl _, fun k hk => ?_⟩ (Nat.le_refl _)
   have := h.2 k (by omega)
   unfold okN at this
   rw [ybn]
   simp only [Bool.or_eq_true, Bool.and_eq_true] at this |-
   rcases this with h | ⟨_, h⟩
   · exact .inl h
   · exact .inr h
 rw [hl, ha, decide_eq_false h0, decide_eq_true hp]
 by_cases h2 : 32 < s.length
 · rw [decide_eq_true h2, decide_eq_false (by omega)]; rfl
 · rw [decide_eq_false h2, decide_eq_true (by omega)]; rfl
def zsc (L : zaa) : zbg := (54, fun xs => match xs with
 | [.str s] => some (L2 L upto 1000000000 s, .bool (L zfj s))
 | _ => none)
def yqk (L : zaa) (s : List UInt8) : Nat -> St -> Option Ann := fun id st => match id with
 | 0 => some ⟨Nat, fun i => [(3, .int .i64 (L zav i))], fun i => [], [0], [], fun i => L2 L zvn s i, fun i => L2 L toC s i⟩
 | _ => none
theorem zx1 : zaz Tryz.prog (zsc std) := by
 intro xs p r h hp
 dsimp only [zsc] at h |-
 split at h <;> cases h
 try simp only [L2, L3, std] at hp |-
 rename_i s
 have hz : s.length <= 1000000000 := hp
 refine za2 (T := tt) (S := fun L => noS L) (lo := fun L => yqk L s) (lb := noA) 5 (fn := Tryz.f54) (xs := fun L => [.str s]) rfl rfl (by kernel_rfl) (by kernel_rfl) rfl zab (zbh _) (by kernel_rfl) ?_
 intro L P' Q' hL hP hQ
 (cbv; try simp only [syT, true_and, and_true])
 refine ⟨⟨0, ?_⟩, fun i hi => ?_⟩
 · (cbv; try simp only [syT, true_and, and_true])
   (subst hL; subst hQ; simp only [L2, L3, std] at *; try simp only [syS, reduceCtorEq, Int.reduceToNat, Int.reduceAdd, Int.reduceSub] at *)
   exact ⟨Nat.zero_le _, fun k hk => by omega⟩
 · have hi2 : zvn s i := by
     have h := hi
     rw [hL] at h
     exact h
   clear hi
   obtain ⟨hi3, hi4⟩ := hi2
   (cbv; try simp only [syT, true_and, and_true])
   have hcb : L (L zhu s) (L zav i) = za9 s i := by subst hL; rfl
   rw [hcb]
   clear hcb
   have step : i < s.length -> okX (za9 s i) i -> zvn s (i + 1) /\ toC s (i + 1) + 1 <= toC s i := fun h1 h2 => ⟨⟨h1, fun k hk => by
     by_cases e : k = i
     · rw [e]; exact yr3.2 h2
     · exact hi4 k (by omega)⟩, by show s.length - (i + 1) + 1 <= s.length - i; omega⟩
   have bad : i < s.length -> ¬ okX (za9 s i) i -> zfj s = false := fun h1 h2 => yfq h1 (by rw [Bool.eq_false_iff]; exact fun h => h2 (yr3.1 h))
   generalize za9 s i = c at step bad |-
   have hend := fun h => yaj ⟨hi3, hi4⟩ h
   unfold okX at step bad
   clear hi4
   repeat' first | refine And.intro ?_ ?_ | (intro hh)
   all_goals first | (refine ⟨i + 1, ?_⟩; (cbv; try simp only [syT, true_and, and_true]); (subst hL; subst hQ; simp only [L2, L3, std] at *; try simp only [syS, reduceCtorEq, Int.reduceToNat, Int.reduceAdd, Int.reduceSub] at *)) | (subst hL; subst hQ; simp only [L2, L3, std] at *; try simp only [syS, reduceCtorEq, Int.reduceToNat, Int.reduceAdd, Int.reduceSub] at *)
   all_goals first
     | omega
     | exact (bad (by omega) (by omega)).symm
     | (obtain ⟨k1, k2⟩ := step (by omega) (by omega); exact ⟨by omega, k1, k2⟩)
     | (obtain ⟨k1, k2⟩ := step (by omega) (by first | exact .inl ⟨by omega, by omega⟩ | exact .inr ⟨by omega, .inl ⟨by omega, by omega⟩⟩ | exact .inr ⟨by omega, .inr (.inl (by assumption))⟩ | exact .inr ⟨by omega, .inr (.inr (by assumption))⟩); exact ⟨by omega, k1, k2⟩)
     | skip
   · rw [hend (by omega), decide_eq_true (show 0 < s.length by omega)]
     unfold ile
     rw [Bool.true_and]
     congr 1
     exact propext ⟨fun h => by omega, fun h => by omega⟩
   · rw [hend (by omega), decide_eq_false (show ¬ 0 < s.length by omega)]; rfl
def yep (c : Int) : Int := if 65 <= c /\ c <= 90 then c + 32 else c
def lowB (b : UInt8) : UInt8 := UInt8.ofNat (yep (b.toNat : Int)).toNat
def zhq (s : List UInt8) : List UInt8 := s.map lowB
def yeo (s : List UInt8) (i k : Nat) : Int := if k < i then yep (za9 s k) else za9 s k
theorem zlq {s : List UInt8} {i k : Nat} : yeo s (i + 1) k = if k = i then yep (za9 s i) else yeo s i k := by
 unfold yeo
 by_cases e : k = i
 · rw [if_pos e, if_pos (by omega), e]
 · rw [if_neg e]
   by_cases h : k < i
   · rw [if_pos (by omega), if_pos h]
   · rw [if_neg (by omega), if_neg h]
theorem ygn {s : List UInt8} {i : Nat} (h : s.length <= i) : zbe s.length (fun k => (AV.int .u8 (yeo s i (0 + k))).toI) = zhq s := by
 apply List.ext_getElem
 · simp [zbe, zhq]
 · intro k h1 h2
   have hk : k < s.length := by simpa [zhq] using h2
   simp only [zbe, zhq, List.getElem_map, List.getElem_range, AV.toI, Nat.zero_add]
   rw [yeo, if_pos (by omega), zfq hk]
   rfl
def leN8 (s : List UInt8) (i : Nat) : Prop := i <= s.length
def zoy (L : zaa) : zbg := (95, fun xs => match xs with
 | [.str s] => some (L2 L upto 1000000000 s, .str (L zhq s))
 | _ => none)
def yrm (L : zaa) (s : List UInt8) : Nat -> St -> Option Ann := fun id st => match id with
 | 0 => some ⟨Nat, fun i => [(10, .int .i64 (L zav i)), (3, .sl 900 1 0 (L lenN s)), (8, .sl 900 1 0 (L lenN s))], fun i => [(900, .row 5 1 (L lenN s) (fun k _ => .int .u8 (L3 L yeo s i k)))], [9], [], fun i => L2 L leN8 s i, fun i => L2 L toC s i⟩
 | _ => none
theorem znd : zaz Tryz.prog (zoy std) := by
 intro xs p r h hp
 dsimp only [zoy] at h |-
 split at h <;> cases h
 try simp only [L2, L3, std] at hp |-
 rename_i s
 have hz : s.length <= 1000000000 := hp
 refine za2 (T := tt) (S := fun L => noS L) (lo := fun L => yrm L s) (lb := noA) 5 (fn := Tryz.f95) (xs := fun L => [.str s]) rfl rfl (by kernel_rfl) (by kernel_rfl) rfl zab (zbh _) (by kernel_rfl) ?_
 intro L P' Q' hL hP hQ
 (cbv; try simp only [syT, true_and, and_true])
 refine ⟨⟨0, ?_⟩, fun i hi => ?_⟩
 · (cbv; try simp only [syT, true_and, and_true])
   (subst hL; subst hQ; simp only [L2, L3, std] at *; try simp only [syS, reduceCtorEq, Int.reduceToNat, Int.reduceAdd, Int.reduceSub] at *)
   exact ⟨fun i j hi hj => by rw [yeo, if_neg (by omega)], Nat.zero_le _⟩
 · have hi2 : i <= s.length := by
     have h := hi
     rw [hL] at h
     exact h
   clear hi
   (cbv; try simp only [syT, true_and, and_true])
   have hc : L (L (L yeo s) i) (L (L Nat.add 0) (L Int.toNat (L zav i))) = za9 s i := by
     subst hL
     show yeo s i (0 + i) = _
     rw [Nat.zero_add, yeo, if_neg (by omega)]
   rw [hc]
   refine ⟨fun hlt => ⟨?_, fun h1 => ⟨fun h2 => ⟨?_, ?_, i + 1, ?_⟩, fun h2 => ⟨i + 1, ?_⟩⟩, fun h1 => ⟨i + 1, ?_⟩⟩, fun hge => ?_⟩
   · (subst hL; subst hQ; simp only [L2, L3, std] at *; try simp only [syS, reduceCtorEq, Int.reduceToNat, Int.reduceAdd, Int.reduceSub] at *)
     omega
   · (subst hL; subst hQ; simp only [L2, L3, std] at *; try simp only [syS, reduceCtorEq, Int.reduceToNat, Int.reduceAdd, Int.reduceSub] at *)
     omega
   · (subst hL; subst hQ; simp only [L2, L3, std] at *; try simp only [syS, reduceCtorEq, Int.reduceToNat, Int.reduceAdd, Int.reduceSub] at *)
     omega
   · (cbv; try simp only [syT, true_and, and_true])
     try simp only [hc]
     (subst hL; subst hQ; simp only [L2, L3, std] at *; try simp only [syS, reduceCtorEq, Int.reduceToNat, Int.reduceAdd, Int.reduceSub] at *)
     refine ⟨fun k j hk hj => ?_, by omega, by show i + 1 <= s.length; omega, by show s.length - (i + 1) + 1 <= s.length - i; omega⟩
     rw [yve _ _ _ _ _ _ hj, zlq]
     by_cases e : k = i
     · rw [if_pos e, if_pos e, yep, if_pos ⟨h1, h2⟩]
       congr 1
       omega
     · rw [if_neg e, if_neg e]
   · (cbv; try simp only [syT, true_and, and_true])
     (subst hL; subst hQ; simp only [L2, L3, std] at *; try simp only [syS, reduceCtorEq, Int.reduceToNat, Int.reduceAdd, Int.reduceSub] at *)
     refine ⟨fun k j hk hj => ?_, by omega, by show i + 1 <= s.length; omega, by show s.length - (i + 1) + 1 <= s.length - i; omega⟩
     rw [zlq]
     by_cases e : k = i
     · rw [if_pos e, yep, if_neg (by omega), e, hc]
     · rw [if_neg e]
   · (cbv; try simp only [syT, true_and, and_true])
     (subst hL; subst hQ; simp only [L2, L3, std] at *; try simp only [syS, reduceCtorEq, Int.reduceToNat, Int.reduceAdd, Int.reduceSub] at *)
     refine ⟨fun k j hk hj => ?_, by omega, by show i + 1 <= s.length; omega, by show s.length - (i + 1) + 1 <= s.length - i; omega⟩
     rw [zlq]
     by_cases e : k = i
     · rw [if_pos e, yep, if_neg (by omega), e, hc]
     · rw [if_neg e]
   · subst hQ; subst hL
     have hge : ilt (i : Int) (s.length : Int) = false := hge
     rw [ycf] at hge
     refine ⟨⟨by show 0 + s.length <= s.length; omega, fun k hk => ⟨_, rfl⟩⟩, ?_⟩
     rw [zkk]
     exact ygn (by omega)
def yen (s : List UInt8) (i : Nat) : List UInt8 := zhq (s.take i)
theorem zlp {s : List UInt8} {i : Nat} (h : i < s.length) : yen s (i + 1) = yen s i ++ [UInt8.ofNat (yep (za9 s i)).toNat] := by
 rw [yen, List.take_succ_eq_append_getElem h, zfq h, yen]
 unfold zhq lowB
 rw [List.map_append]; rfl
theorem ygm {s : List UInt8} {i : Nat} (h : s.length <= i) : yen s i = zhq s := by rw [yen, List.take_of_length_le h]
theorem ygl (s : List UInt8) (i : Nat) : (yen s i).length <= s.length := by
 simp [yen, zhq]
 omega
def zod (L : zaa) : zbg := (106, fun xs => match xs with
 | [.str s] => some (L2 L upto 1000000000 s, .str (L zhq s))
 | _ => none)
def ylf (L : zaa) (s : List UInt8) : Nat -> St -> Option Ann := fun id st => match id with
 | 0 => some ⟨Nat, fun i => [(4, .int .i64 (L zav i)), (3, .str (L2 L yen s i))], fun i => [], [0], [], fun i => L2 L leN8 s i, fun i => L2 L toC s i⟩
 | _ => none
theorem zse : zaz Tryz.prog (zod std) := by
 intro xs p r h hp
 dsimp only [zod] at h |-
 split at h <;> cases h
 try simp only [L2, L3, std] at hp |-
 rename_i s
 have hz : s.length <= 1000000000 := hp
 refine za2 (T := tt) (S := fun L => noS L) (lo := fun L => ylf L s) (lb := noA) 5 (fn := Tryz.f106) (xs := fun L => [.str s]) rfl rfl (by kernel_rfl) (by kernel_rfl) rfl zab (zbh _) (by kernel_rfl) ?_
 intro L P' Q' hL hP hQ
 (cbv; try simp only [syT, true_and, and_true])
 refine ⟨⟨0, ?_⟩, fun i hi => ?_⟩
 · (cbv; try simp only [syT, true_and, and_true])
   (subst hL; subst hQ; simp only [L2, L3, std] at *; try simp only [syS, reduceCtorEq, Int.reduceToNat, Int.reduceAdd, Int.reduceSub] at *)
   exact ⟨by simp [yen, zhq], Nat.zero_le _⟩
 · have hi2 : i <= s.length := by
     have h := hi
     rw [hL] at h
     exact h
   clear hi
   have hll := ygl s i
   (cbv; try simp only [syT, true_and, and_true])
   have hc : L (L zhu s) (L zav i) = za9 s i := by subst hL; rfl
   rw [hc]
   have one : ∀ x : Int, zbe 1 (fun k => (AV.int .u8 (zdf [x] (0 + k))).toI) = [UInt8.ofNat x.toNat] := fun x => rfl
   refine ⟨fun hlt => ⟨?_, fun h1 => ⟨fun h2 => ⟨⟨?_, fun k hk => ⟨_, rfl⟩⟩, ?_, i + 1, ?_⟩, fun h2 => ⟨⟨?_, fun k hk => ⟨_, rfl⟩⟩, ?_, i + 1, ?_⟩⟩, fun h1 => ⟨⟨?_, fun k hk => ⟨_, rfl⟩⟩, ?_, i + 1, ?_⟩⟩, fun hge => ?_⟩
   · (subst hL; subst hQ; simp only [L2, L3, std] at *; try simp only [syS, reduceCtorEq, Int.reduceToNat, Int.reduceAdd, Int.reduceSub] at *)
     omega
   · (subst hL; subst hQ; simp only [L2, L3, std] at *; try simp only [syS, reduceCtorEq, Int.reduceToNat, Int.reduceAdd, Int.reduceSub] at *)
     omega
   · (subst hL; subst hQ; simp only [L2, L3, std] at *; try simp only [syS, reduceCtorEq, Int.reduceToNat, Int.reduceAdd, Int.reduceSub] at *)
     simp only [one, List.length_singleton]
     omega
   · (cbv; try simp only [syT, true_and, and_true])
     (subst hL; subst hQ; simp only [L2, L3, std] at *; try simp only [syS, reduceCtorEq, Int.reduceToNat, Int.reduceAdd, Int.reduceSub] at *)
     refine ⟨?_, by omega, by show i + 1 <= s.length; omega, by show s.length - (i + 1) + 1 <= s.length - i; omega⟩
     rw [one, zlp (by omega), yep, if_pos ⟨h1, h2⟩, show (za9 s i + 32) % 256 = za9 s i + 32 by omega]
   · (subst hL; subst hQ; simp only [L2, L3, std] at *; try simp only [syS, reduceCtorEq, Int.reduceToNat, Int.reduceAdd, Int.reduceSub] at *)
     omega
   · (subst hL; subst hQ; simp only [L2, L3, std] at *; try simp only [syS, reduceCtorEq, Int.reduceToNat, Int.reduceAdd, Int.reduceSub] at *)
     simp only [one, List.length_singleton]
     omega
   · (cbv; try simp only [syT, true_and, and_true])
     (subst hL; subst hQ; simp only [L2, L3, std] at *; try simp only [syS, reduceCtorEq, Int.reduceToNat, Int.reduceAdd, Int.reduceSub] at *)
     refine ⟨?_, by omega, by show i + 1 <= s.length; omega, by show s.length - (i + 1) + 1 <= s.length - i; omega⟩
     rw [one, zlp (by omega), yep, if_neg (by omega)]
   · (subst hL; subst hQ; simp only [L2, L3, std] at *; try simp only [syS, reduceCtorEq, Int.reduceToNat, Int.reduceAdd, Int.reduceSub] at *)
     omega
   · (subst hL; subst hQ; simp only [L2, L3, std] at *; try simp only [syS, reduceCtorEq, Int.reduceToNat, Int.reduceAdd, Int.reduceSub] at *)
     simp only [one, List.length_singleton]
     omega
   · (cbv; try simp only [syT, true_and, and_true])
     (subst hL; subst hQ; simp only [L2, L3, std] at *; try simp only [syS, reduceCtorEq, Int.reduceToNat, Int.reduceAdd, Int.reduceSub] at *)
     refine ⟨?_, by omega, by show i + 1 <= s.length; omega, by show s.length - (i + 1) + 1 <= s.length - i; omega⟩
     rw [one, zlp (by omega), yep, if_neg (by omega)]
   · (subst hL; subst hQ; simp only [L2, L3, std] at *; try simp only [syS, reduceCtorEq, Int.reduceToNat, Int.reduceAdd, Int.reduceSub] at *)
     exact ygm (by omega)
end Sy
end Go.Proofs.YthppjaoicibeiaaGreatDoor
namespace Go.Proofs.YthppjaoicibeiaaGreatDoor
open Go Go.RowKit Go.Sort Go.Lib
set_option maxRecDepth 100000
set_option linter.unusedSimpArgs false
set_option linter.unusedVariables false
set_option maxHeartbeats 6400000 in
theorem yse (u : Nat) (hu : u < 18446744073709551616) (w : World) (htab : Lib.TabIs Tryz.prog w "internal/strconv.uint64pow10" .u64 Lib.pow10Tab) :
   Calls Tryz.prog 178 #[.int .u64 u, .int .i64 10] w fun e w' => e = .returned (.string ⟨(Lib.decDigits u).toArray⟩) /\ Below w.heap.size w w' := by
 by_cases hs : u < 100
 · have hw : IntKind.i64.wrap (u : Int) = (u : Int) := by rw [IntKind.wrap_i64]; omega
   go_enter Tryz.func178, Tryz.ntmps178
   go_wp2_with (go_at_call 199; refine (Tryz.internal_strconv_small u hs _).mono ?_; rintro e w' ⟨rfl, rfl⟩)
   go_ret
   exact ⟨rfl, Below.refl _ _⟩
 · have hu1 : 1 <= u := by omega
   have hnd20 : Lib.nDigits u <= 20 := by have := Lib.numDigits_eq u hu1 hu; split at this <;> omega
   have hal : Tryz.prog.arrayLen 237 = 24 := by kernel_rfl
   have hsl1 : ∀ W, (Instr.sliceAt 237 (.pointer (some ⟨w.heap.size, 0, none⟩)) none (some (.int .i64 (Lib.nDigits u : Int))) none).run Tryz.prog W = .ok (.slice (some ⟨w.heap.size, 0, none⟩) (Lib.nDigits u) 24) W := fun W => by
     rw [run_sliceAt_array_h W 237 ⟨w.heap.size, 0, none⟩ (by simp [Program.arrayLen, Program.elem, Tryz.underlying237]) .i64 (Lib.nDigits u : Int) (by omega) (by rw [hal]; omega)]
     go_simp
     first | done | omega
   have hH0 := Lib.holds_zero0 w 237 (Lib.nDigits u) (by omega)
   have hfmt := Tryz.internal_strconv_formatBase10 w.heap.size 0 24 u (Array.replicate (Lib.nDigits u) 0) (w.alloc (.cells Lib.zeros24 237)) hH0 (by rw [Array.size_replicate]; exact Lib.lt_pow_nDigits u) hu (by rw [Array.size_replicate]; omega)
   rw [Array.size_replicate] at hfmt
   have HH0 := Lib.hid hH0
   clear hH0 hal
   go_enter Tryz.func178, Tryz.ntmps178
   go_wp2_with (first
     | (go_at_call 200; refine (Tryz.internal_strconv_numDigits u hu1 hu _ (Lib.tabIs_alloc htab _)).mono ?_; rintro e w' ⟨rfl, rfl⟩))
   refine hfmt.mono ?_
   rintro e w' ⟨rfl, k, v', dk, rfl, hF⟩
   have hcv : (convert 130 9 (.slice (some ⟨w.heap.size, 0, none⟩) (Lib.nDigits u) 24)).run Tryz.prog ((putRow (fun (b : UInt8) => Value.int .u8 (b.toNat : Int)) (w.alloc (.cells Lib.zeros24 237)) w.heap.size 0 dk).drewN k) = .ok (.string ⟨(Lib.decDigits u).toArray⟩) ((putRow (fun (b : UInt8) => Value.int .u8 (b.toNat : Int)) (w.alloc (.cells Lib.zeros24 237)) w.heap.size 0 dk).drewN k) := by
     have h := run_convert_bytes_back (P := Tryz.prog) ((putRow (fun (b : UInt8) => Value.int .u8 (b.toNat : Int)) (w.alloc (.cells Lib.zeros24 237)) w.heap.size 0 dk).drewN k) 130 9 5 ⟨w.heap.size, 0, none⟩ 24 (Lib.decDigits u) Tryz.underlying130 Tryz.underlying5 Tryz.underlying9 (fun j hj => by
       rw [Lib.row_is_numeral hF j hj, Lib.add_plain, World.cell?_drewN]
       exact cell?_putRow (fun (b : UInt8) => Value.int .u8 (b.toNat : Int)) _ w.heap.size 0 _ dk HH0.out (by rw [hF.size, Array.size_replicate]) j (by rw [hF.size]; rw [Lib.decDigits_length] at hj; exact hj))
     rw [Lib.decDigits_length] at h
     exact h
   go_wp2
   go_ret
   obtain ⟨os, eo⟩ := Lib.fin_at w (.cells Lib.zeros24 237) dk k 0
   refine ⟨rfl, ?_⟩
   have := Lib.below_grow w.heap.size w (Nat.le_refl _) k os
   rw [<- eo] at this
   exact this
theorem ynd (u : Nat) (hu : u < 18446744073709551616) (w : World) (htab : Lib.TabIs Tryz.prog w "internal/strconv.uint64pow10" .u64 Lib.pow10Tab) :
   Calls Tryz.prog 138 #[.int .u64 u, .int .i64 10] w fun e w' => e = .returned (.string ⟨(Lib.decDigits u).toArray⟩) /\ Below w.heap.size w w' := by
 go_enter Tryz.func138, Tryz.ntmps138
 go_wp2_with (go_at_call 178; refine (yse u hu _ htab).mono ?_; rintro e w' ⟨rfl, hw⟩)
 go_ret
 exact ⟨rfl, hw⟩
end Go.Proofs.YthppjaoicibeiaaGreatDoor
namespace Go.Proofs.YthppjaoicibeiaaGreatDoor
namespace Sy
open Go Go.RowKit
set_option maxRecDepth 100000
set_option linter.unusedSimpArgs false
set_option linter.unusedVariables false
theorem zh7 {P : Program} {f : FuncId} {fn : Func} {c : Code} {xs : List AV} {args : Array Value} {r : AV} (hf : P.funcs[f]? = some fn) (hb : fn.body = some c) (hn : (fn.name == "runtime.NumGoroutine") = false)
   (ha : ∀ h D vs, RL h D zax xs vs -> vs = args) (h : ∀ w, GOk w -> Calls P f args w fun e w' => ∃ v, e = .returned v /\ Below w.heap.size w w' /\ ∀ h D, R h D zax r v) : za7 P f xs r := by
 intro D w vs hD hxs hg
 have := ha _ _ _ hxs
 subst this
 unfold zgg
 rw [zcv hf hn hb]
 refine (h w hg).mono ?_
 rintro e w' ⟨v, rfl, hw, hv⟩
 exact ⟨v, D, rfl, hw, fun _ h => h, fun b hb => .inl hb, hv _ _⟩
theorem yx1 {x y z : AV} {v u t : Value} (hx : zrr x v) (hy : zrr y u) (hz : zrr z t) : ∀ h D vs, RL h D zax [x, y, z] vs -> vs = #[v, u, t] := by
 intro h D vs ⟨hl, hr⟩
 obtain ⟨a, b, c, ha⟩ : ∃ a b c, vs.toList = [a, b, c] := by
   have hl : vs.toList.length = 3 := by simpa using hl.symm
   match vs.toList, hl with
   | [a, b, c], _ => exact ⟨a, b, c, rfl⟩
 have : vs = #[a, b, c] := by rw [<- Array.toArray_toList (xs := vs), ha]
 subst this
 rw [hx _ _ a (hr 0 x a rfl rfl), hy _ _ b (hr 1 y b rfl rfl), hz _ _ c (hr 2 z c rfl rfl)]
def zcu (n : Int) : List UInt8 := Lib.decDigits n.toNat
def zj8 (n : Int) : Prop := 0 <= n /\ n < 18446744073709551616
def ync (L : zaa) : zbg := (138, fun xs => match xs with | [.int .u64 n, .int .i64 b] => some (L2 L (fun n b : Int => zj8 n /\ b = 10) n b, .str (L zcu n)) | _ => none)
theorem yhi : zaz Tryz.prog (ync std) := by
 intro xs p r h hp
 dsimp only [ync] at h |-
 split at h <;> cases h
 try simp only [L2, L3, std] at hp |-
 rename_i n b
 obtain ⟨⟨h0, h1⟩, h2⟩ : zj8 n /\ b = 10 := hp
 subst h2
 obtain ⟨u, rfl⟩ := zll h0
 refine zh7 (fn := Tryz.f138) rfl rfl (by kernel_rfl) (zyq (ze8 _ _) (ze8 _ _)) (fun w hg => (ynd u (by omega) w hg.2.1).mono ?_)
 rintro e w' ⟨rfl, hw⟩
 exact ⟨_, rfl, hw, fun h D => yf2 h D _ _⟩
def yfx (s : List UInt8) : Int := match Lib.parseUintB 64 s with | .ok u => u | .syntax => 0 | .range => 18446744073709551615
def yek (s : List UInt8) : Bool := match Lib.parseUintB 64 s with | .ok _ => true | _ => false
def ylq (L : zaa) : zbg := (196, fun xs => match xs with | [.str s, .int .i64 b, .int .i64 z] => some (L3 L (fun (s : List UInt8) (b z : Int) => s.length <= 140737488355328 /\ b = 10 /\ z = 64) s b z, .tup [.int .u64 (L yfx s), .ifb (L yek s)]) | _ => none)
theorem zzk {x y : AV} {v u : Value} {h : Array Obj} {D : Nat -> Prop} (hx : R h D zax x v) (hy : R h D zax y u) : R h D zax (.tup [x, y]) (.tuple #[v, u]) := by
 refine .tup _ _ rfl ?_
 intro i z t hz ht
 match i with
 | 0 => simp at hz ht; subst hz ht; exact hx
 | 1 => simp at hz ht; subst hz ht; exact hy
 | i + 2 => simp at hz
theorem yfw : zaz Tryz.prog (ylq std) := by
 intro xs p r h hp
 dsimp only [ylq] at h |-
 split at h <;> cases h
 try simp only [L2, L3, std] at hp |-
 rename_i s b z
 obtain ⟨h0, h1, h2⟩ : s.length <= 140737488355328 /\ b = 10 /\ z = 64 := hp
 subst h1; subst h2
 have hs : (⟨s.toArray⟩ : ByteArray).size = s.length := by show s.toArray.size = s.length; simp
 have hd : (⟨s.toArray⟩ : ByteArray).data.toList = s := rfl
 refine zh7 (fn := Tryz.f196) rfl rfl (by kernel_rfl) (yx1 (zcy _) (ze8 _ _) (ze8 _ _)) (fun w hg => ?_)
 obtain ⟨-, -, ⟨t2, p2, g2⟩, ⟨t3, p3, g3⟩, -⟩ := hg
 cases hq : Lib.parseUintB 64 s with
 | ok u =>
   refine (Tryz.strconv_ParseUint_10_at64_ok ⟨s.toArray⟩ (by rw [hs]; omega) u (by rw [hd]; exact hq) w).mono ?_
   rintro e w' ⟨rfl, hw⟩
   refine ⟨_, rfl, ?_, fun h D => zzk ?_ ?_⟩
   · rcases hw with rfl | rfl
     · exact Below.refl _ _
     · exact Lib.bytesWorld_below _ _ _
   · show R h D zax (.int .u64 (yfx s)) _
     rw [yfx, hq]; exact .int _ _
   · show R h D zax (.ifb (yek s)) _
     rw [yek, hq]; exact .ifn
 | «syntax» =>
   refine (Tryz.strconv_ParseUint_10_at64_syntax_var ⟨s.toArray⟩ (by rw [hs]; omega) (by rw [hd]; exact hq) t2 p2 w g2).mono ?_
   rintro e w' ⟨N, rfl, hN, hc, hw⟩
   refine ⟨_, rfl, hw, fun h D => zzk ?_ ?_⟩
   · show R h D zax (.int .u64 (yfx s)) _
     rw [yfx, hq]; exact .int _ _
   · show R h D zax (.ifb (yek s)) _
     rw [yek, hq]; exact .ifs _ _
 | range =>
   refine (Tryz.strconv_ParseUint_10_at64_range_var ⟨s.toArray⟩ (by rw [hs]; omega) (by rw [hd]; exact hq) t3 p3 w g3).mono ?_
   rintro e w' ⟨N, rfl, hN, hc, hw⟩
   refine ⟨_, rfl, hw, fun h D => zzk ?_ ?_⟩
   · show R h D zax (.int .u64 (yfx s)) _
     rw [yfx, hq]; exact .int _ _
   · show R h D zax (.ifb (yek s)) _
     rw [yek, hq]; exact .ifs _ _
def zbu (n : Int) : Prop := 0 <= n /\ n < 18446744073709551616
def zas (n : Int) : List UInt8 := zdt n.toNat
def zl4 (L : zaa) : zbg := (170, fun xs => match xs with | [.int .u64 n] => some (L zbu n, .str (L zas n)) | _ => none)
theorem zja : zaz Tryz.prog (zl4 std) := by
 intro xs p r h hp
 dsimp only [zl4] at h |-
 split at h <;> cases h
 try simp only [L2, L3, std] at hp |-
 rename_i n
 obtain ⟨h0, h1⟩ : zbu n := hp
 obtain ⟨k, rfl⟩ := zll h0
 exact zej (fn := Tryz.f170) rfl rfl (by kernel_rfl) (yx2 (ze8 _ _)) (fun h D => yf2 h D _ _) (fun w => zzq k w (by omega))
theorem zyo : za7 Tryz.prog 173 [] (.bool true) := by
 refine zac (T := tt) (S := fun L => zao [zl4 L, yfu L]) (lo := noA) (lb := noA) 5 (fn := Tryz.f173) rfl rfl (by kernel_rfl) (by kernel_rfl) rfl zab (za3 ⟨zja, zun, trivial⟩) (by kernel_rfl) ?_
 (intro L P1 Q1 hL hP hQ; cbv; subst hL; simp only [L2, L3, std, syT]; subst hQ)
 (simp only [syS, reduceCtorEq, Int.reduceToNat, Int.reduceAdd, Int.reduceSub])
 exact ⟨by unfold zbu; omega, fun _ => ⟨by unfold ylp; omega, by decide +kernel⟩, by rw [zas, show (300 : Int).toNat = 300 from rfl, zfa (by decide), zbb (by decide)]; rfl⟩
def tru (f : Nat) : zbg := (f, fun xs => match xs with | [] => some (True, .bool true) | _ => none)
theorem zcg {P : Program} {f : Nat} (h : za7 P f [] (.bool true)) : zaz P (tru f) := by
 intro xs p r h' hp
 match xs with
 | [] => cases h'; exact h
 | x :: xs => cases h'
theorem znw : za7 Tryz.prog 134 [] (.bool true) := by
 refine zac (T := tt) (S := fun L => zao [tru 173]) (lo := noA) (lb := noA) 5 (fn := Tryz.f134) rfl rfl (by kernel_rfl) (by kernel_rfl) rfl zab (za3 ⟨zcg zyo, trivial⟩) (by kernel_rfl) ?_
 (intro L P1 Q1 hL hP hQ; cbv; subst hL; simp only [L2, L3, std, syT]; subst hQ)
 (simp only [syS, reduceCtorEq, Int.reduceToNat, Int.reduceAdd, Int.reduceSub])
def isD (c : UInt8) : Bool := decide (48 <= c.toNat) && decide (c.toNat <= 57)
def dcS (a : Nat) (c : UInt8) : Nat := a * 10 + (c.toNat - 48)
def zmu (a : Nat) (l : List UInt8) : Nat := l.foldl dcS a
theorem zkp (a : Nat) : zmu a [] = a := by unfold zmu; exact List.foldl_nil
theorem zix (a : Nat) (c : UInt8) (r : List UInt8) : zmu a (c :: r) = zmu (a * 10 + (c.toNat - 48)) r := by unfold zmu; exact List.foldl_cons ..
theorem zvt (l : List UInt8) (c : UInt8) (a : Nat) : zmu a (l ++ [c]) = zmu a l * 10 + (c.toNat - 48) := by
 unfold zmu
 rw [List.foldl_append, List.foldl_cons, List.foldl_nil, dcS]
theorem ztt : ∀ (l : List UInt8) (a : Nat), a <= zmu a l
 | [], a => by rw [zkp]; exact Nat.le_refl _
 | c :: r, a => by rw [zix]; exact Nat.le_trans (by omega) (ztt r _)
theorem zi1 {c : UInt8} : isD c = true ↔ 48 <= c.toNat /\ c.toNat <= 57 := by
 simp [isD]
theorem yj9 : ∀ (l : List UInt8) (a : Nat), l.all isD = true -> a < 18446744073709551616 -> Lib.parseUintM 18446744073709551615 a l = if zmu a l < 18446744073709551616 then .ok (zmu a l) else .range
 | [], a, _, ha => by
   rw [zkp, if_pos ha, Lib.parseUintM]
 | c :: r, a, h, ha => by
   rw [List.all_cons, Bool.and_eq_true] at h
   obtain ⟨h1, h2⟩ := h
   rw [zi1] at h1
   rw [Lib.parseUintM, if_pos h1, zix]
   have hge := ztt r (a * 10 + (c.toNat - 48))
   split
   · rw [if_neg (by omega)]
   · split
     · rw [if_neg (by omega)]
     · exact yj9 r _ h2 (by omega)
theorem ylr {l : List UInt8} (h : l.all isD = true) (h0 : l ≠ []) : Lib.parseUintB 64 l = if zmu 0 l < 18446744073709551616 then .ok (zmu 0 l) else .range := by
 rw [Lib.parseUintB, if_neg h0]
 exact yj9 l 0 h (by decide)
def zsw (s : List UInt8) : Bool := s.all isD && !(s == []) && (!(zhu s 0 == 48) || s == [48])
def zrw (s : List UInt8) : Int := if zsw s = true then (if zmu 0 s < 18446744073709551616 then 0 else 7) else 4
def wnV (s : List UInt8) : Int := if zrw s = 0 then zmu 0 s else 0
def yhu (L : zaa) : zbg := (87, fun xs => match xs with | [.int .u64 n] => some (L zj8 n, .str (L zcu n)) | _ => none)
theorem zvs : zaz Tryz.prog (yhu std) := by
 intro xs p r h hp
 dsimp only [yhu] at h |-
 split at h <;> cases h
 try simp only [L2, L3, std] at hp |-
 rename_i n
 have hn : zj8 n := hp
 refine zac (T := tt) (S := fun L => zao [ync L]) (lo := noA) (lb := noA) 5 (fn := Tryz.f87) rfl rfl (by kernel_rfl) (by kernel_rfl) rfl zab (za3 ⟨yhi, trivial⟩) (by kernel_rfl) ?_
 (intro L P1 Q1 hL hP hQ; cbv; subst hL; simp only [L2, L3, std, syT]; subst hQ)
 refine ⟨⟨hn, trivial⟩, ?_⟩
 rw [zkk]
def yg7 (s : List UInt8) (i : Nat) : Prop := i <= s.length /\ (s.take i).all isD = true
theorem yne (a b c d : Int) : zic (.tup [.int .u64 a, .int .i64 b]) (.tup [.int .u64 c, .int .i64 d]) = (c = a /\ d = b) := by
 simp [sySet]
theorem zos {s : List UInt8} (h : zsw s = false) : 0 = wnV s /\ 4 = zrw s := by
 have e : zrw s = 4 := by rw [zrw, if_neg (by rw [h]; decide)]
 exact ⟨by rw [wnV, if_neg (by rw [e]; decide)], e.symm⟩
theorem ybk {s : List UInt8} {i : Nat} (hi : i < s.length) (h : zhu s (zav i) < 48 \/ 57 < zhu s (zav i)) : zsw s = false := by
 have : s.all isD = false := by
   rw [List.all_eq_false]
   refine ⟨s[i], List.getElem_mem hi, ?_⟩
   rw [zi1]
   rw [zhu, zav, Int.toNat_natCast, List.getD_eq_getElem?_getD, List.getElem?_eq_getElem hi, Option.getD_some] at h
   omega
 rw [zsw, this]; rfl
theorem ym1 {s : List UInt8} {i i' : Nat} (hi' : i' = i + 1) (h : yg7 s i) (hi : i < s.length) (h1 : ¬ zhu s (zav i) < 48) (h2 : ¬ 57 < zhu s (zav i)) : yg7 s i' := by
 subst hi'
 refine ⟨hi, ?_⟩
 rw [List.take_succ_eq_append_getElem hi, List.all_append, h.2, List.all_cons, List.all_nil]
 rw [zhu, zav, Int.toNat_natCast, List.getD_eq_getElem?_getD, List.getElem?_eq_getElem hi, Option.getD_some] at h1 h2
 have : isD s[i] = true := zi1.2 (by omega)
 rw [this]; rfl
theorem zuv {s : List UInt8} {i : Nat} (h : yg7 s i) (hi : ¬ i < s.length) : s.all isD = true := by
 have := h.2
 rw [List.take_of_length_le (by omega)] at this
 exact this
theorem zkf {s : List UInt8} (h : s.all isD = true) (h0 : s ≠ []) (h1 : zhu s 0 ≠ 48 \/ s = [48]) : ((!yek s) = true -> 0 = wnV s /\ 7 = zrw s) /\ ((!yek s) = false -> yfx s = wnV s /\ 0 = zrw s) := by
 have ho : zsw s = true := by
   rw [zsw, h]
   rcases h1 with h1 | h1
   · simp [h0, h1]
   · subst h1; rfl
 have hB := ylr h h0
 rw [wnV, zrw, if_pos ho, yek, yfx, hB]
 by_cases hl : zmu 0 s < 18446744073709551616
 · rw [if_pos hl, if_pos hl]
   exact ⟨fun h => by simp at h, fun _ => ⟨rfl, rfl⟩⟩
 · rw [if_neg hl, if_neg hl]
   exact ⟨fun _ => ⟨rfl, rfl⟩, fun h => by simp at h⟩
def nuA (L : zaa) (s : List UInt8) : Nat -> St -> Option Ann := fun id st => match id with
 | 0 => some ⟨Nat, fun i => [(9, .int .i64 (L zav i))], fun _ => [], [0, 8], [], fun i => L2 L yg7 s i, fun i => L2 L (fun (s : List UInt8) (i : Nat) => s.length - i) s i⟩
 | _ => none
def zz8 (L : zaa) : zbg := (172, fun xs => match xs with | [.str s] => some (L2 L upto 1000000 s, .tup [.int .u64 (L wnV s), .int .i64 (L zrw s)]) | _ => none)
theorem zgw {n k : Nat} (h : ilt (zav n) (zav k) = true) : n < k := by
 have := of_decide_eq_true h
 unfold zav at this; omega
theorem ziw {n k : Nat} (h : ilt (zav n) (zav k) = false) : ¬ n < k := by
 have := of_decide_eq_false h
 unfold zav at this; omega
theorem ycc {n k : Nat} (h : n < k) : inR (zav n) (zav k) = true := by rw [ymu]; exact ⟨Int.natCast_nonneg _, by unfold zav; omega⟩
theorem ygc {n n' : Nat} (h : n' = n + 1) (h2 : n < 100000000) : yir .i64 (zav n) 1 = zav n' := by
 subst h; unfold zav; rw [yir, yex]; omega
theorem zqi {s : List UInt8} (h : seq s [] = false) : s ≠ [] := by
 intro e; subst e; exact absurd h (by decide)
theorem yrd {s : List UInt8} (h : seq s [] = true) : zsw s = false := by
 have : s = [] := by simpa [seq] using h
 subst this; rfl
theorem yra {s : List UInt8} (h : seq s [] = false) : inR 0 (slen s) = true := by
 have := zqi h
 rw [ymu, slen]
 have : 0 < s.length := List.length_pos_iff.2 this
 omega
theorem yr9 {s : List UInt8} (h : (!seq s [48]) = false) : s = [48] := by
 have : seq s [48] = true := by simpa using h
 simpa [seq] using this
theorem yjd {s : List UInt8} (h : ieq (zhu s 0) 48 = false) : zhu s 0 ≠ 48 := by
 simpa [ieq] using h
theorem yrc {s : List UInt8} (h : ieq (zhu s 0) 48 = true) (h2 : (!seq s [48]) = true) : zsw s = false := by
 have h1 : zhu s 0 = 48 := by simpa [ieq] using h
 have h3 : ¬ s = [48] := by
   intro e; subst e; exact absurd h2 (by decide)
 rw [zsw, h1]
 simp [h3]
theorem zz9 : zaz Tryz.prog (zz8 std) := by
 intro xs p r h hp
 dsimp only [zz8] at h |-
 split at h <;> cases h
 try simp only [L2, L3, std] at hp |-
 rename_i s
 have hs : s.length <= 1000000 := hp
 refine zac (T := tt) (S := fun L => zao [ylq L]) (lo := fun L => nuA L s) (lb := noA) 5 (fn := Tryz.f172) rfl rfl (by kernel_rfl) (by kernel_rfl) rfl zab (za3 ⟨yfw, trivial⟩) (by kernel_rfl) ?_
 obtain ⟨n0, hn0⟩ : ∃ n : Nat, n = 0 := ⟨_, rfl⟩
 intro L P' Q' hL hP hQ
 (cbv; try simp only [syT, true_and, and_true])
 refine ⟨⟨n0, ?_⟩, fun i hi => ?_⟩
 · (cbv; try simp only [syT, true_and, and_true])
   subst hL; subst hQ; subst hn0
   exact ⟨rfl, Nat.zero_le _, by rw [List.take_zero]; rfl⟩
 obtain ⟨i', hi'⟩ : ∃ i' : Nat, i' = i + 1 := ⟨_, rfl⟩
 (cbv; try simp only [syT, true_and, and_true])
 refine ⟨fun h1 => ⟨?_, fun h2 => ?_, fun h2 => ⟨?_, fun h3 => ?_, fun h3 => ⟨i', ?_⟩⟩⟩, fun h1 => ⟨fun h2 => ?_, fun h2 => ⟨?_, fun h3 => ⟨fun h4 => ?_, fun h4 => ⟨?_, fun h5 => ?_, fun h5 => ?_⟩⟩, fun h3 => ⟨?_, fun h5 => ?_, fun h5 => ?_⟩⟩⟩⟩
 all_goals (try (cbv; try simp only [syT, true_and, and_true]))
 all_goals (subst hL; subst hQ)
 all_goals (try rw [yne])
 · exact ycc (k := s.length) (zgw h1)
 · exact zos (ybk (zgw (k := s.length) h1) (.inl (of_decide_eq_true h2)))
 · exact ycc (k := s.length) (zgw h1)
 · exact zos (ybk (zgw (k := s.length) h1) (.inr (of_decide_eq_true h3)))
 · have hlt : i < s.length := zgw (k := s.length) h1
   refine ⟨ygc hi' (by omega), ym1 hi' hi hlt (of_decide_eq_false h2) (of_decide_eq_false h3), ?_⟩
   show s.length - i' + 1 <= s.length - i
   omega
 · exact zos (yrd h2)
 · exact yra h2
 · exact zos (yrc h3 h4)
 · exact ⟨by omega, rfl, rfl⟩
 · exact (zkf (zuv hi (ziw (k := s.length) h1)) (zqi h2) (.inr (yr9 h4))).1 h5
 · exact (zkf (zuv hi (ziw (k := s.length) h1)) (zqi h2) (.inr (yr9 h4))).2 h5
 · exact ⟨by omega, rfl, rfl⟩
 · exact (zkf (zuv hi (ziw (k := s.length) h1)) (zqi h2) (.inl (yjd h3))).1 h5
 · exact (zkf (zuv hi (ziw (k := s.length) h1)) (zqi h2) (.inl (yjd h3))).2 h5
def ysx (N : Nat) (x : Nat × List UInt8) : Prop := x.1 <= N /\ Lib.decDigits N = Lib.decDigits x.1 ++ x.2
def rdA (L : zaa) (N : Nat) : Nat -> St -> Option Ann := fun id st => match id with
 | 0 => some ⟨Nat × List UInt8, fun x => [(0, .int .u64 (L zav (L Prod.fst x))), (3, .str (L Prod.snd x))], fun _ => [], [], [], fun x => L2 L ysx N x, fun x => L Prod.fst x⟩
 | _ => none
def yat (L : zaa) : zbg := (103, fun xs => match xs with | [.int .u64 n] => some (L zj8 n, .str (L zcu n)) | _ => none)
theorem zvr {N : Nat} {x : Nat × List UInt8} (h : ysx N x) (hN : N < 18446744073709551616) : x.2.length <= 20 /\ x.1 < 18446744073709551616 := by
 obtain ⟨h1, h2⟩ := h
 have e := congrArg List.length h2
 rw [List.length_append, Lib.decDigits_length] at e
 have hn : Lib.nDigits N <= 20 := by
   by_cases h0 : N = 0
   · subst h0; rw [Lib.nDigits_small (by decide)]; decide
   · have := Lib.numDigits_eq N (by omega) hN
     split at this <;> omega
 omega
theorem ydc (x : Nat) : zbe 1 (fun i => (AV.int .u8 (zdf [IntKind.u8.wrap (yir .u64 48 (Int.tmod (zav x) 10))] (0 + i))).toI) = [UInt8.ofNat (48 + x % 10)] := by
 have e : IntKind.u8.wrap (yir .u64 48 (Int.tmod (zav x) 10)) = ((48 + x % 10 : Nat) : Int) := by
   rw [zav, Int.tmod_eq_emod_of_nonneg (by omega), yir, yew, w_u8]; omega
 show [UInt8.ofNat (IntKind.u8.wrap (yir .u64 48 (Int.tmod (zav x) 10))).toNat] = _
 rw [e, Int.toNat_natCast]
theorem zts (x : Nat) (h : x < 18446744073709551616) : yip .u64 (zav x) 10 = zav (x / 10) := by
 rw [yip, zav, zav, yew, Int.tdiv_eq_ediv_of_nonneg (by omega)]; omega
theorem ynr {N : Nat} {x : Nat × List UInt8} (hN : N < 18446744073709551616) (h : ysx N x) (h2 : ieq (yip .u64 (zav x.1) 10) 0 = true) : [UInt8.ofNat (48 + x.1 % 10)] ++ x.2 = zcu (N : Int) := by
 obtain ⟨h1, h3⟩ := h
 rw [zts x.1 (by omega)] at h2
 have h2 : ((x.1 / 10 : Nat) : Int) = 0 := by simpa [ieq, zav] using h2
 have h4 : x.1 < 10 := by omega
 rw [zcu, Int.toNat_natCast, h3, Lib.decDigits_one h4, Nat.mod_eq_of_lt h4]
theorem yhv {N : Nat} {x y : Nat × List UInt8} (hN : N < 18446744073709551616) (h : ysx N x) (hy : y = (x.1 / 10, UInt8.ofNat (48 + x.1 % 10) :: x.2)) (h2 : ieq (yip .u64 (zav x.1) 10) 0 = false) : ysx N y /\ y.1 + 1 <= x.1 := by
 obtain ⟨h1, h3⟩ := h
 rw [zts x.1 (by omega)] at h2
 have h2 : ¬ ((x.1 / 10 : Nat) : Int) = 0 := by simpa [ieq, zav] using h2
 have h4 : ¬ x.1 < 10 := by omega
 subst hy
 refine ⟨⟨by show x.1 / 10 <= N; omega, ?_⟩, by show x.1 / 10 + 1 <= x.1; omega⟩
 show _ = Lib.decDigits (x.1 / 10) ++ (UInt8.ofNat (48 + x.1 % 10) :: x.2)
 rw [h3, Lib.decDigits, dif_neg h4, List.append_assoc]; rfl
theorem zrz {N : Nat} (h : (N : Int) < 18446744073709551616) : N < 18446744073709551616 := by omega
theorem yau : zaz Tryz.prog (yat std) := by
 intro xs p r h hp
 dsimp only [yat] at h |-
 split at h <;> cases h
 try simp only [L2, L3, std] at hp |-
 rename_i n
 obtain ⟨h0, h1⟩ : zj8 n := hp
 obtain ⟨N, rfl⟩ := zll h0
 have hN := zrz h1
 refine zac (T := tt) (S := noS) (lo := fun L => rdA L N) (lb := noA) 5 (fn := Tryz.f103) rfl rfl (by kernel_rfl) (by kernel_rfl) rfl zab (zbh _) (by kernel_rfl) ?_
 intro L P' Q' hL hP hQ
 obtain ⟨x0, hx0⟩ : ∃ x : Nat × List UInt8, x = (N, []) := ⟨_, rfl⟩
 (cbv; try simp only [syT, true_and, and_true])
 refine ⟨⟨x0, ?_⟩, fun x hx => ?_⟩
 · (cbv; try simp only [syT, true_and, and_true])
   subst hL; subst hQ; subst hx0
   exact ⟨rfl, rfl, Nat.le_refl _, (List.append_nil _).symm⟩
 obtain ⟨y, hy⟩ : ∃ y : Nat × List UInt8, y = (x.1 / 10, UInt8.ofNat (48 + x.1 % 10) :: x.2) := ⟨_, rfl⟩
 (cbv; try simp only [syT, true_and, and_true])
 refine ⟨?_, ⟨?_, ?_⟩, ?_, ?_, fun h2 => ?_, fun h2 => ⟨y, ?_⟩⟩
 all_goals (try (cbv; try simp only [syT, true_and, and_true]))
 all_goals (subst hL; subst hQ)
 · rfl
 · exact show 0 + 1 <= 1 by decide
 · exact fun i hi => ⟨_, rfl⟩
 · have := (zvr hx hN).1
   simp only [std, L2]
   rw [ydc, yi9, decide_eq_true_eq]
   show 1 + x.2.length <= _
   omega
 · rfl
 · rw [zkk]
   simp only [std, L2]
   rw [ydc]
   exact ynr hN hx h2
 · simp only [std, L2] at h2 |-
   rw [ydc]
   obtain ⟨e1, e2⟩ := yhv hN hx hy h2
   exact ⟨by rw [hy]; rfl, by rw [hy]; exact zts x.1 (zvr hx hN).2, e1, e2⟩
theorem ysw {n : Nat} (h : n < 10) : (UInt8.ofNat (48 + n)).toNat = 48 + n := by
 rw [UInt8.toNat_ofNat']; omega
theorem yjs (u : Nat) : (Lib.decDigits u).all isD = true /\ Lib.decDigits u ≠ [] /\ zmu 0 (Lib.decDigits u) = u /\ (1 <= u -> zhu (Lib.decDigits u) 0 ≠ 48) := by
 induction u using Nat.strongRecOn with
 | _ u ih =>
   by_cases h : u < 10
   · rw [Lib.decDigits_one h]
     have hc := ysw h
     refine ⟨?_, by simp, ?_, fun h1 => ?_⟩
     · rw [List.all_cons, List.all_nil, Bool.and_true, zi1, hc]; omega
     · rw [zix, zkp, hc]; omega
     · show ((UInt8.ofNat (48 + u)).toNat : Int) ≠ 48
       rw [hc]; omega
   · obtain ⟨a1, a2, a3, a4⟩ := ih (u / 10) (by omega)
     have hc := ysw (show u % 10 < 10 by omega)
     rw [Lib.decDigits, dif_neg h]
     refine ⟨?_, by simp, ?_, fun _ => ?_⟩
     · rw [List.all_append, a1, List.all_cons, List.all_nil, Bool.and_true, Bool.true_and, zi1, hc]; omega
     · rw [zvt, a3, hc]; omega
     · have := a4 (by omega)
       have h0 : 0 < (Lib.decDigits (u / 10)).length := List.length_pos_iff.2 a2
       rw [zhu, List.getD_eq_getElem?_getD] at this |-
       rw [List.getElem?_append_left (by simpa using h0)]
       exact this
theorem zff {n : Int} (h : zj8 n) : zrw (zcu n) = 0 /\ wnV (zcu n) = n := by
 obtain ⟨u, rfl⟩ := zll h.1
 have hu : u < 18446744073709551616 := zrz h.2
 obtain ⟨a1, a2, a3, a4⟩ := yjs u
 have ho : zsw (zcu (u : Int)) = true := by
   rw [zcu, Int.toNat_natCast, zsw, a1]
   by_cases h0 : 1 <= u
   · simp [a2, a4 h0]
   · have : u = 0 := by omega
     subst this
     rw [Lib.decDigits_one (by decide)]; rfl
 have e : zrw (zcu (u : Int)) = 0 := by
   rw [zrw, if_pos ho, zcu, Int.toNat_natCast, a3, if_pos hu]
 refine ⟨e, ?_⟩
 rw [wnV, if_pos e, zcu, Int.toNat_natCast, a3]
theorem yjr : ∀ (n : Nat) (s : List UInt8), s.length = n -> s.all isD = true -> s ≠ [] -> (zhu s 0 ≠ 48 \/ s = [48]) -> Lib.decDigits (zmu 0 s) = s
 | 0, s, hl, _, h0, _ => absurd (List.eq_nil_of_length_eq_zero hl) h0
 | n + 1, s, hl, ha, h0, hz => by
   obtain ⟨t, c, rfl⟩ : ∃ t c, s = t ++ [c] := ⟨s.dropLast, s.getLast h0, (List.dropLast_concat_getLast h0).symm⟩
   rw [List.all_append, List.all_cons, List.all_nil, Bool.and_true, Bool.and_eq_true] at ha
   obtain ⟨ht, hc⟩ := ha
   rw [zi1] at hc
   rw [zvt]
   have back : UInt8.ofNat (48 + (c.toNat - 48)) = c := by
     apply UInt8.toNat_inj.1
     rw [UInt8.toNat_ofNat']
     have := c.toNat_lt
     omega
   by_cases htn : t = []
   · subst htn
     rw [zkp, Nat.zero_mul, Nat.zero_add, Lib.decDigits_one (by omega), back]; rfl
   · have hlt : t.length = n := by simpa using hl
     obtain ⟨x, r, rfl⟩ := List.exists_cons_of_ne_nil htn
     have hx : zhu (x :: r) 0 ≠ 48 := by
       rcases hz with hz | hz
       · exact hz
       · have := congrArg List.length hz
         simp at this
     have h1 : 1 <= zmu 0 (x :: r) := by
       rw [zix]
       refine Nat.le_trans ?_ (ztt r _)
       rw [List.all_cons, Bool.and_eq_true, zi1] at ht
       have : x.toNat ≠ 48 := fun e => hx (by show ((x.toNat : Nat) : Int) = 48; omega)
       omega
     have ih := yjr n (x :: r) hlt ht htn (.inl hx)
     generalize zmu 0 (x :: r) = v at h1 ih |-
     rw [Lib.decDigits, dif_neg (by omega), show (v * 10 + (c.toNat - 48)) / 10 = v by omega, show (v * 10 + (c.toNat - 48)) % 10 = c.toNat - 48 by omega, ih, back]
theorem yvj {s : List UInt8} (h : zsw s = true) : s.all isD = true /\ s ≠ [] /\ (zhu s 0 ≠ 48 \/ s = [48]) := by
 simp only [zsw, Bool.and_eq_true, Bool.not_eq_true', Bool.or_eq_true, beq_iff_eq, beq_eq_false_iff_ne, ne_eq] at h
 exact ⟨h.1.1, h.1.2, h.2⟩
theorem zhk {s : List UInt8} (h : zrw s = 0) : zcu (wnV s) = s /\ zj8 (wnV s) := by
 have ho : zsw s = true := by
   cases hq : zsw s with
   | true => rfl
   | false => rw [zrw, hq, if_neg (by decide)] at h; exact absurd h (by decide)
 have hl : zmu 0 s < 18446744073709551616 := by
   rw [zrw, if_pos ho] at h
   split at h
   · assumption
   · exact absurd h (by decide)
 obtain ⟨h1, h2, h3⟩ := yvj ho
 rw [wnV, if_pos h, zcu, Int.toNat_natCast, yjr _ s rfl h1 h2 h3]
 exact ⟨rfl, by unfold zj8; omega⟩
theorem zm4 {n : Int} (h : zj8 n) : (zcu n).length <= 20 := by
 obtain ⟨u, rfl⟩ := zll h.1
 have hu : u < 18446744073709551616 := zrz h.2
 rw [zcu, Int.toNat_natCast, Lib.decDigits_length]
 by_cases h0 : u = 0
 · subst h0; rw [Lib.nDigits_small (by decide)]; decide
 · have := Lib.numDigits_eq u (by omega) hu
   split at this <;> omega
structure Pl where
 a : Int
 b : Int
 c : Int
 d : Int
 p : Int
 deriving DecidableEq
def plA (L : zaa) (x : Pl) : AV := .agg [.int .u8 (L Pl.a x), .int .u8 (L Pl.b x), .int .u8 (L Pl.c x), .int .u8 (L Pl.d x), .int .u16 (L Pl.p x)]
def zlm (L : zaa) (a b c d p : Int) : Pl := L (L (L (L (L Pl.mk a) b) c) d) p
def zqe (x : Pl) : Prop := (0 <= x.a /\ x.a <= 255) /\ (0 <= x.b /\ x.b <= 255) /\ (0 <= x.c /\ x.c <= 255) /\ (0 <= x.d /\ x.d <= 255) /\ 0 <= x.p /\ x.p <= 65535
def ub (n : Int) : UInt8 := UInt8.ofNat n.toNat
def plB (x : Pl) : List UInt8 := [ub x.a, ub x.b, ub x.c, ub x.d, ub (x.p / 256), ub (x.p % 256)]
def plT (x : Pl) : List UInt8 := zcu x.a ++ 46 :: (zcu x.b ++ 46 :: (zcu x.c ++ 46 :: (zcu x.d ++ 58 :: zcu x.p)))
def zen (x : Pl) : Bool := decide (x.a = 0) && (decide (x.b = 0) && (decide (x.c = 0) && decide (x.d = 0)))
def zgq (x y : Pl) : Bool := decide (x.p = y.p) && (decide (x.a = y.a /\ x.b = y.b /\ x.c = y.c /\ x.d = y.d) || (zen x || zen y))
theorem ypu (n : Nat) : UInt8.ofNat n = UInt8.ofNat (n % 256) := by
 apply UInt8.toNat_inj.1
 rw [UInt8.toNat_ofNat', UInt8.toNat_ofNat']; omega
theorem yva {p : Int} (h0 : 0 <= p) (h1 : p <= 65535) : putZ p 2 = [ub (p / 256), ub (p % 256)] := by
 obtain ⟨n, rfl⟩ := zll h0
 show zsk n 2 = _
 rw [zsk, zsk, zsk, Nat.pow_one, Nat.pow_zero, Nat.div_one, ypu n]
 show _ = [UInt8.ofNat ((n : Int) / 256).toNat, UInt8.ofNat ((n : Int) % 256).toNat]
 rw [show ((n : Int) / 256).toNat = n / 256 by omega, show ((n : Int) % 256).toNat = n % 256 by omega]
theorem ypt {n : Int} (h0 : 0 <= n) (h1 : n <= 255) : ((ub n).toNat : Int) = n := by
 rw [ub, UInt8.toNat_ofNat']; omega
def zpk (L : zaa) : zbg := (115, fun xs => match xs with
 | [.agg [.int .u8 a, .int .u8 b, .int .u8 c, .int .u8 d, .int .u16 p]] => some (L zqe (zlm L a b c d p), .str (L plB (zlm L a b c d p)))
 | _ => none)
theorem znn : zaz Tryz.prog (zpk std) := by
 intro xs p r h hp
 dsimp only [zpk] at h |-
 split at h <;> cases h
 try simp only [L2, L3, std] at hp |-
 rename_i a b c d p
 have hp : zqe ⟨a, b, c, d, p⟩ := hp
 refine zac (T := tt) (S := fun L => zao [yfu L]) (lo := noA) (lb := noA) 5 (fn := Tryz.f115) rfl rfl (by kernel_rfl) (by kernel_rfl) rfl zab (za3 ⟨zun, trivial⟩) (by kernel_rfl) ?_
 (intro L P1 Q1 hL hP hQ; cbv; subst hL; simp only [L2, L3, std, syT]; subst hQ)
 (simp only [syS, reduceCtorEq, Int.reduceToNat, Int.reduceAdd, Int.reduceSub])
 obtain ⟨-, -, -, -, h1, h2⟩ := hp
 simp only at h1 h2
 have h2 : p <= 65535 := h2
 rw [show p % 18446744073709551616 = p by omega, yva h1 h2]
 exact ⟨fun i _ => ⟨_, rfl⟩, ⟨by omega, by omega, by decide, by decide⟩, by simp [zbe], rfl⟩
def yic (L : zaa) : zbg := (98, fun xs => match xs with
 | [.agg [.int .u8 a, .int .u8 b, .int .u8 c, .int .u8 d, .int .u16 p]] => some (True, .bool (L zen (zlm L a b c d p)))
 | _ => none)
theorem zw3 : zaz Tryz.prog (yic std) := by
 intro xs p r h hp
 dsimp only [yic] at h |-
 split at h <;> cases h
 try simp only [L2, L3, std] at hp |-
 rename_i a b c d p
 refine zac (T := tt) (S := noS) (lo := noA) (lb := noA) 5 (fn := Tryz.f98) rfl rfl (by kernel_rfl) (by kernel_rfl) rfl zab (zbh _) (by kernel_rfl) ?_
 (intro L P1 Q1 hL hP hQ; cbv; subst hL; simp only [L2, L3, std, syT]; subst hQ)
 (simp only [syS, reduceCtorEq, Int.reduceToNat, Int.reduceAdd, Int.reduceSub])
 show _ = (decide (a = 0) && (decide (b = 0) && (decide (c = 0) && decide (d = 0))))
 simp [ieq, Bool.beq_eq_decide_eq]
def ybt (L : zaa) : zbg := (89, fun xs => match xs with
 | [.agg [.int .u8 a, .int .u8 b, .int .u8 c, .int .u8 d, .int .u16 p], .agg [.int .u8 e, .int .u8 f, .int .u8 g, .int .u8 h, .int .u16 q]] => some (True, .bool (L2 L zgq (zlm L a b c d p) (zlm L e f g h q)))
 | _ => none)
theorem ybu : zaz Tryz.prog (ybt std) := by
 intro xs p r h hp
 dsimp only [ybt] at h |-
 split at h <;> cases h
 try simp only [L2, L3, std] at hp |-
 rename_i a b c d p e f g h q
 refine zac (T := tt) (S := fun L => zao [yic L]) (lo := noA) (lb := noA) 5 (fn := Tryz.f89) rfl rfl (by kernel_rfl) (by kernel_rfl) rfl zab (za3 ⟨zw3, trivial⟩) (by kernel_rfl) ?_
 (intro L P1 Q1 hL hP hQ; cbv; subst hL; simp only [L2, L3, std, syT]; subst hQ)
 (simp only [syS, reduceCtorEq, Int.reduceToNat, Int.reduceAdd, Int.reduceSub])
 show (_ -> (_ -> true = (decide (p = q) && (decide (a = e /\ b = f /\ c = g /\ d = h) || (zen ⟨a, b, c, d, p⟩ || zen ⟨e, f, g, h, q⟩)))) /\ (_ -> (zen ⟨a, b, c, d, p⟩ = true -> true = (decide (p = q) && (decide (a = e /\ b = f /\ c = g /\ d = h) || (zen ⟨a, b, c, d, p⟩ || zen ⟨e, f, g, h, q⟩)))) /\
   (zen ⟨a, b, c, d, p⟩ = false -> zen ⟨e, f, g, h, q⟩ = (decide (p = q) && (decide (a = e /\ b = f /\ c = g /\ d = h) || (zen ⟨a, b, c, d, p⟩ || zen ⟨e, f, g, h, q⟩)))))) /\ (_ -> false = (decide (p = q) && (decide (a = e /\ b = f /\ c = g /\ d = h) || (zen ⟨a, b, c, d, p⟩ || zen ⟨e, f, g, h, q⟩))))
 refine ⟨fun h1 => ⟨fun h2 => ?_, fun h2 => ⟨fun h3 => ?_, fun h3 => ?_⟩⟩, fun h1 => ?_⟩
 · simp [h1, h2]
 · subst h1
   rw [h3]; simp
 · have h2 : ¬ (a = e /\ b = f /\ c = g /\ d = h) := fun x => h2 x.1 x.2.1 x.2.2.1 x.2.2.2
   rw [decide_eq_true h1, decide_eq_false h2, h3]; rfl
 · simp [h1]
def ipL (x : Pl) : List Int := [x.a, x.b, x.c, x.d]
def ipT (x : Pl) (j : Nat) : List UInt8 := zcu (zdf (ipL x) j)
def le4s (i : Nat) : Prop := i <= 4
def to4 (i : Nat) : Nat := 4 - i
def txtA (L : zaa) (x : Pl) : Nat -> St -> Option Ann := fun id st => match id with
 | 0 => some ⟨Nat, fun i => [(8, .int .i64 (L zav i)), (3, .sl 900 1 0 i)], fun i => [(900, .row 9 1 i (fun j _ => .str (L2 L ipT x j)))], [1, 7], [1], fun i => L le4s i, fun i => L to4 i⟩
 | _ => none
theorem zxw {x : Pl} (h : zqe x) (j : Nat) : zj8 (zdf (ipL x) j) := by
 obtain ⟨h1, h2, h3, h4, -⟩ := h
 match j with
 | 0 => exact ⟨h1.1, by have := h1.2; show x.a < _; omega⟩
 | 1 => exact ⟨h2.1, by have := h2.2; show x.b < _; omega⟩
 | 2 => exact ⟨h3.1, by have := h3.2; show x.c < _; omega⟩
 | 3 => exact ⟨h4.1, by have := h4.2; show x.d < _; omega⟩
 | j + 4 => exact ⟨Int.le_refl 0, (by decide : (0 : Int) < 18446744073709551616)⟩
theorem yvy (x : Pl) : Lib.join [zcu x.a, zcu x.b, zcu x.c, zcu x.d] [46] = zcu x.a ++ 46 :: (zcu x.b ++ 46 :: (zcu x.c ++ 46 :: zcu x.d)) := by
 simp [Lib.join, List.intercalate]
def zsm (L : zaa) : zbg := (135, fun xs => match xs with
 | [.agg [.int .u8 a, .int .u8 b, .int .u8 c, .int .u8 d, .int .u16 p]] => some (L zqe (zlm L a b c d p), .str (L plT (zlm L a b c d p)))
 | _ => none)
theorem zxc : zaz Tryz.prog (zsm std) := by
 intro xs p r h hp
 dsimp only [zsm] at h |-
 split at h <;> cases h
 try simp only [L2, L3, std] at hp |-
 rename_i a b c d p
 have hp : zqe ⟨a, b, c, d, p⟩ := hp
 refine zac (T := tt) (S := fun L => zao [yhu L, yu4 L]) (lo := fun L => txtA L ⟨a, b, c, d, p⟩) (lb := noA) 5 (fn := Tryz.f135) rfl rfl (by kernel_rfl) (by kernel_rfl) rfl zab (za3 ⟨zvs, yc7, trivial⟩) (by kernel_rfl) ?_
 intro L P' Q' hL hP hQ
 (cbv; try simp only [syT, true_and, and_true])
 refine ⟨⟨0, ?_⟩, fun i hi => ?_⟩
 · (cbv; try simp only [syT, true_and, and_true])
   (subst hL; subst hQ; simp only [L2, L3, std] at *; try simp only [syS, reduceCtorEq, Int.reduceToNat, Int.reduceAdd, Int.reduceSub] at *)
   exact Nat.zero_le _
 · (cbv; try simp only [syT, true_and, and_true])
   have hi4 : i <= 4 := by
     have hi' := hi
     rw [hL] at hi'
     exact hi'
   refine ⟨fun h1 => ⟨?_, ?_, ?_, i + 1, ?_⟩, fun h1 => ⟨?_, ?_, ?_, ?_, ?_⟩⟩
   · (subst hL; subst hQ; simp only [L2, L3, std] at *; try simp only [syS, reduceCtorEq, Int.reduceToNat, Int.reduceAdd, Int.reduceSub] at *)
     omega
   · (subst hL; subst hQ; simp only [L2, L3, std] at *; try simp only [syS, reduceCtorEq, Int.reduceToNat, Int.reduceAdd, Int.reduceSub] at *)
     have := zxw hp i
     show zj8 (_ % _)
     rw [show zdf [a, b, c, d] i % 18446744073709551616 = zdf (ipL ⟨a, b, c, d, p⟩) i from Int.emod_eq_of_lt this.1 this.2]
     exact this
   · (subst hL; subst hQ; simp only [L2, L3, std] at *; try simp only [syS, reduceCtorEq, Int.reduceToNat, Int.reduceAdd, Int.reduceSub] at *)
     omega
   · (cbv; try simp only [syT, true_and, and_true])
     (subst hL; subst hQ; simp only [L2, L3, std] at *; try simp only [syS, reduceCtorEq, Int.reduceToNat, Int.reduceAdd, Int.reduceSub] at *)
     refine ⟨fun k j hk hj => ?_, by omega, by show i + 1 <= 4; omega, by show 4 - (i + 1) + 1 <= 4 - i; omega⟩
     by_cases hk' : k < i
     · rw [zgl hk', show k - i = 0 by omega]; rfl
     · have : k = i := by omega
       subst this
       rw [zht (by omega), show k - k = 0 by omega]
       match j, hj with
       | 0, _ =>
         have := zxw hp k
         show AV.str (zcu (zdf [a, b, c, d] k % 18446744073709551616)) = .str (zcu (zdf (ipL ⟨a, b, c, d, p⟩) k))
         rw [show zdf [a, b, c, d] k % 18446744073709551616 = zdf (ipL ⟨a, b, c, d, p⟩) k from Int.emod_eq_of_lt this.1 this.2]
   all_goals
     (subst hL; subst hQ; simp only [L2, L3, std] at *; try simp only [syS, reduceCtorEq, Int.reduceToNat, Int.reduceAdd, Int.reduceSub] at *)
     have h4 : i = 4 := by omega
     subst h4
     have l1 := zm4 (zxw hp 0)
     have l2 := zm4 (zxw hp 1)
     have l3 := zm4 (zxw hp 2)
     have l4 := zm4 (zxw hp 3)
     have hp5 : 0 <= p /\ p <= 65535 := hp.2.2.2.2
     have l5 := zm4 (n := p) ⟨hp5.1, by omega⟩
     have hj : jnZ [46] (.lst 1 4 fun i x => AV.str (ipT ⟨a, b, c, d, p⟩ i)) = zcu a ++ 46 :: (zcu b ++ 46 :: (zcu c ++ 46 :: zcu d)) := yvy ⟨a, b, c, d, p⟩
     have hm : p % 18446744073709551616 = p := by omega
     simp only [zdf, ipL, List.getD_cons_zero, List.getD_cons_succ] at l1 l2 l3 l4
     have hl : (zcu a ++ 46 :: (zcu b ++ 46 :: (zcu c ++ 46 :: zcu d))).length <= 100 := by
       simp only [List.length_append, List.length_cons]; omega
   · refine ⟨fun k hk => ⟨_, rfl⟩, by omega, ?_⟩
     have : Lib.join (zcj 4 fun i x => AV.str (ipT ⟨a, b, c, d, p⟩ i)) [46] = zcu a ++ 46 :: (zcu b ++ 46 :: (zcu c ++ 46 :: zcu d)) := hj
     rw [this]; omega
   · rw [hj, List.length_singleton]; omega
   · rw [hm]; exact ⟨hp5.1, by omega⟩
   · rw [hj, hm, List.length_append, List.length_singleton]; omega
   · rw [hj, hm]
     show _ = plT ⟨a, b, c, d, p⟩
     simp [plT]
theorem yjb {x : Pl} {a b c d p : Int} (h : x = ⟨a, b, c, d, p⟩) : fits1 (plA std x) (.agg [.int .u8 a, .int .u8 b, .int .u8 c, .int .u8 d, .int .u16 p]) := by
 subst h
 show fits1 (.agg [.int .u8 a, .int .u8 b, .int .u8 c, .int .u8 d, .int .u16 p]) _
 simp only [zdh, zcs, and_self]
def zp9 (s : List UInt8) : List (List UInt8) := zam (yhz s [58]) [46]
def zsp (s : List UInt8) : List UInt8 := ydi s [58]
def zml (s : List UInt8) (k : Nat) : Int := wnV (zca (zp9 s) k)
def yej (s : List UInt8) (k : Nat) : Int := zrw (zca (zp9 s) k)
def prtO (s : List UInt8) (k : Nat) : Prop := yej s k = 0 /\ zml s k <= 255
def ytt (s : List UInt8) : Prop := yt0 s [58] = true /\ (zp9 s).length = 4 /\ (∀ k, k < 4 -> prtO s k) /\ zrw (zsp s) = 0 /\ 1 <= wnV (zsp s) /\ wnV (zsp s) <= 65535
open Classical in
noncomputable def spE (s : List UInt8) : Int := if ytt s then 0 else 4
noncomputable def spP (s : List UInt8) : Pl := if spE s = 0 then ⟨zml s 0, zml s 1, zml s 2, zml s 3, wnV (zsp s)⟩ else ⟨0, 0, 0, 0, 0⟩
theorem zpv {c : UInt8} : ∀ {s : List UInt8} {x : List UInt8}, x ∈ zb4 c s -> x.length <= s.length
 | [], x, h => by simp [zb4] at h; subst h; exact Nat.le_refl _
 | y :: s, x, h => by
   have ih := fun x h => zpv (c := c) (s := s) (x := x) h
   unfold zb4 at h
   split at h
   · rcases List.mem_cons.1 h with rfl | h
     · exact Nat.zero_le _
     · have := ih x h; simp; omega
   · split at h
     · rename_i z r hs
       rcases List.mem_cons.1 h with rfl | h
       · have := ih z (by rw [hs]; simp); simp; omega
       · have := ih x (by rw [hs]; simp [h]); simp; omega
     · rename_i hs; exact absurd hs (zpw _ _)
theorem ybi (c : UInt8) (s : List UInt8) (k : Nat) : (zca (zb4 c s) k).length <= s.length := by
 rw [zca, List.getD_eq_getElem?_getD]
 cases h : (zb4 c s)[k]? with
 | none => exact Nat.zero_le _
 | some x => exact zpv (List.mem_of_getElem? h)
theorem yrb (s : List UInt8) : 0 <= wnV s := by
 unfold wnV
 split
 · exact Int.natCast_nonneg _
 · exact Int.le_refl _
theorem yhy (s sep : List UInt8) : (yhz s sep).length <= s.length := by
 unfold yhz
 split
 · exact Nat.le_refl _
 · rw [List.length_take]; omega
theorem yhx (s sep : List UInt8) : (ydi s sep).length <= s.length := by
 unfold ydi
 split
 · exact Nat.zero_le _
 · rw [List.length_drop]; omega
theorem zl1 {s : List UInt8} (h : ¬ ytt s) : fits1 (plA std (spP s)) (.agg [.int .u8 0, .int .u8 0, .int .u8 0, .int .u8 0, .int .u16 0]) /\ 4 = spE s := by
 have e : spE s = 4 := if_neg h
 exact ⟨yjb (if_neg (by rw [e]; decide)), e.symm⟩
noncomputable def ylw (L : zaa) : zbg := (133, fun xs => match xs with
 | [.str s] => some (L2 L upto 1000000 s, .tup [plA L (L spP s), .int .i64 (L spE s)])
 | _ => none)
def ipZ (s : List UInt8) (i k : Nat) : Int := if k < i then zml s k else 0
def yr0 (s : List UInt8) (i : Nat) : Prop := i <= 4 /\ ∀ k, k < i -> prtO s k
def parA (L : zaa) (s : List UInt8) : Nat -> St -> Option Ann := fun id st => match id with
 | 0 => some ⟨Nat, fun i => [(30, .int .i64 (L zav i)), (2, .ref 2 0), (4, .ref 4 0)],
     fun i => [(2, .box 32 [.int .u8 0, .int .u8 0, .int .u8 0, .int .u8 0, .int .u16 0]), (4, .box 32 [.int .u8 (L (L2 L ipZ s i) 0), .int .u8 (L (L2 L ipZ s i) 1), .int .u8 (L (L2 L ipZ s i) 2), .int .u8 (L (L2 L ipZ s i) 3), .int .u16 0])], [8, 28, 29], [],
     fun i => L2 L yr0 s i, fun i => L to4 i⟩
 | _ => none
theorem yfz : zaz Tryz.prog (ylw std) := by
 intro xs p r h hp
 dsimp only [ylw] at h |-
 split at h <;> cases h
 try simp only [L2, L3, std] at hp |-
 rename_i s
 have hp : s.length <= 1000000 := hp
 refine zac (T := tt) (S := fun L => zao [ynu L, yf3 L, zz8 L]) (lo := fun L => parA L s) (lb := noA) 5 (fn := Tryz.f133) rfl rfl (by kernel_rfl) (by kernel_rfl) rfl zab (za3 ⟨yhw, zug, zz9, trivial⟩) (by kernel_rfl) ?_
 intro L P' Q' hL hP hQ
 have hcl := yhy s [58]
 have hbl := yhx s [58]
 (cbv; try simp only [syT, true_and, and_true])
 refine ⟨?_, ?_, fun h => ?_, fun h1 => ⟨fun h => ?_, fun h2 => ⟨⟨0, ?_⟩, fun i hi => ?_⟩⟩⟩
 · (subst hL; subst hQ; simp only [L2, L3, std] at *; try simp only [syS, reduceCtorEq, Int.reduceToNat, Int.reduceAdd, Int.reduceSub] at *)
   exact ⟨rfl, by show s.length <= _; omega⟩
 · (subst hL; subst hQ; simp only [L2, L3, std] at *; try simp only [syS, reduceCtorEq, Int.reduceToNat, Int.reduceAdd, Int.reduceSub] at *)
   exact ⟨rfl, by show (yhz s [58]).length <= _; omega⟩
 · (subst hL; subst hQ; simp only [L2, L3, std] at *; try simp only [syS, reduceCtorEq, Int.reduceToNat, Int.reduceAdd, Int.reduceSub] at *)
   exact zl1 fun x => by rw [x.1] at h; cases h
 · (subst hL; subst hQ; simp only [L2, L3, std] at *; try simp only [syS, reduceCtorEq, Int.reduceToNat, Int.reduceAdd, Int.reduceSub] at *)
   exact zl1 fun x => h (by have := x.2.1; show ((zp9 s).length : Int) = 4; omega)
 · (cbv; try simp only [syT, true_and, and_true])
   (subst hL; subst hQ; simp only [L2, L3, std] at *; try simp only [syS, reduceCtorEq, Int.reduceToNat, Int.reduceAdd, Int.reduceSub] at *)
   exact ⟨rfl, rfl, rfl, rfl, Nat.zero_le _, fun k hk => by omega⟩
 · cbv at hi
   (cbv; try simp only [syT, true_and, and_true])
   have hpl : ∀ k, (zca (zp9 s) k).length <= 1000000 := fun k => Nat.le_trans (ybi _ _ k) (by omega)
   refine ⟨fun h3 => ⟨?_, ?_, fun h4 => ?_, fun h4 => ⟨fun h5 => ?_, fun h5 => ⟨?_, i + 1, ?_⟩⟩⟩, fun h3 => ⟨?_, fun h4 => ⟨fun h5 => ⟨fun h6 => ?_, fun h6 => ?_⟩, fun h5 => ?_⟩, fun h4 => ?_⟩⟩
   · (subst hL; subst hQ; simp only [L2, L3, std] at *; try simp only [syS, reduceCtorEq, Int.reduceToNat, Int.reduceAdd, Int.reduceSub] at *)
     omega
   · (subst hL; subst hQ; simp only [L2, L3, std] at *; try simp only [syS, reduceCtorEq, Int.reduceToNat, Int.reduceAdd, Int.reduceSub] at *)
     exact hpl i
   · (subst hL; subst hQ; simp only [L2, L3, std] at *; try simp only [syS, reduceCtorEq, Int.reduceToNat, Int.reduceAdd, Int.reduceSub] at *)
     exact zl1 fun x => h4 (x.2.2.1 i (by omega)).1
   · (subst hL; subst hQ; simp only [L2, L3, std] at *; try simp only [syS, reduceCtorEq, Int.reduceToNat, Int.reduceAdd, Int.reduceSub] at *)
     have h5 : 255 < zml s i := h5
     exact zl1 fun x => by have := (x.2.2.1 i (by omega)).2; omega
   · (subst hL; subst hQ; simp only [L2, L3, std] at *; try simp only [syS, reduceCtorEq, Int.reduceToNat, Int.reduceAdd, Int.reduceSub] at *)
     omega
   · (cbv; try simp only [syT, true_and, and_true])
     (subst hL; subst hQ; simp only [L2, L3, std] at *; try simp only [syS, reduceCtorEq, Int.reduceToNat, Int.reduceAdd, Int.reduceSub] at *)
     have h4 : yej s i = 0 := h4
     have h5 : zml s i <= 255 := h5
     have h0 : 0 <= zml s i := yrb _
     have hm : wnV (zca (zam (yhz s [58]) [46]) i) % 256 = zml s i := by
       show zml s i % 256 = zml s i
       omega
     rw [hm]
     have cell : ∀ k, (cond (zaq i k) (zml s i) (ipZ s i k)) = ipZ s (i + 1) k := by
       intro k
       by_cases hik : i = k
       · subst hik
         rw [za8, ipZ, ipZ, if_pos (show i < i + 1 by omega)]; rfl
       · rw [zar hik]
         show ipZ s i k = _
         rw [ipZ, ipZ]
         by_cases hlt : k < i
         · rw [if_pos hlt, if_pos (by omega)]
         · rw [if_neg hlt, if_neg (by omega)]
     have hi4 : i < 4 := by omega
     refine ⟨cell 3, cell 2, cell 1, cell 0, by omega, ⟨by omega, fun k hk => ?_⟩, by show 4 - (i + 1) + 1 <= 4 - i; omega⟩
     by_cases hki : k = i
     · rw [hki]; exact ⟨h4, h5⟩
     · exact hi.2 k (by omega)
   · (subst hL; subst hQ; simp only [L2, L3, std] at *; try simp only [syS, reduceCtorEq, Int.reduceToNat, Int.reduceAdd, Int.reduceSub] at *)
     show (ydi s [58]).length <= 1000000
     omega
   all_goals
     (subst hL; subst hQ; simp only [L2, L3, std] at *; try simp only [syS, reduceCtorEq, Int.reduceToNat, Int.reduceAdd, Int.reduceSub] at *)
     have hi4 : i = 4 := by have := hi.1; omega
     subst hi4
   · have hok : ytt s := ⟨h1, by show zhz (zp9 s) = 4; have h2 : ((zhz (zp9 s) : Nat) : Int) = 4 := h2; omega, hi.2, h4, h5, h6⟩
     have hE : spE s = 0 := if_pos hok
     refine ⟨yjb ?_, hE.symm⟩
     rw [spP, if_pos hE, show wnV (ydi s [58]) % 65536 = wnV (ydi s [58]) by omega]
     rfl
   · exact zl1 fun x => by have := x.2.2.2.2.2; have h6 : 65535 < wnV (zsp s) := h6; omega
   · exact zl1 fun x => by have := x.2.2.2.2.1; have h5 : wnV (zsp s) < 1 := h5; omega
   · exact zl1 fun x => h4 x.2.2.2.1
end Sy
end Go.Proofs.YthppjaoicibeiaaGreatDoor
namespace Go.Proofs.YthppjaoicibeiaaGreatDoor
namespace Sy
open Go Go.RowKit
set_option maxRecDepth 100000
set_option linter.unusedSimpArgs false
set_option linter.unusedVariables false
structure Cx where
 i : Nat
 f : Nat
 q : Nat
def spC (s : List UInt8) (c : Int) : List (List UInt8) := zb4 (ub c) s
def cxI (s : List UInt8) (c : Int) (x : Cx) : Prop :=
 (x.i <= s.length /\ x.f <= x.i /\ zb4 (ub c) (s.drop x.f) = (spC s c).drop x.q /\ (∀ k, x.f <= k -> k < x.i -> s[k]? ≠ some (ub c)) /\ x.q < (spC s c).length) \/ (x.i = s.length + 1 /\ x.q = (spC s c).length)
def rcA (L : zaa) (s : List UInt8) (c : Int) : Nat -> St -> Option Ann := fun id st => match id with
 | 0 => some ⟨Cx, fun x => [(7, .int .i64 (L zav (L Cx.i x))), (6, .int .i64 (L zav (L Cx.f x))), (5, .sl 900 1 0 (L Cx.q x))], fun x => [(900, .row 9 1 (L Cx.q x) (fun j _ => .str (L2 L zca (L2 L spC s c) j)))], [0, 1], [],
     fun x => L3 L cxI s c x, fun x => L2 L (fun (s : List UInt8) (x : Cx) => s.length + 1 - x.i) s x⟩
 | _ => none
def cOk (c : Int) : Prop := 0 <= c /\ c <= 255
def yax (L : zaa) : zbg := (151, fun xs => match xs with
 | [.str s, .int .u8 c] => some (L2 L upto 1000000 s /\ L cOk c, yem L (L2 L spC s c))
 | _ => none)
theorem zzo {s : List UInt8} {i : Nat} (h : i < s.length) : zhu s (zav i) = (s[i].toNat : Int) := by
 rw [zhu, zav, Int.toNat_natCast, List.getD_eq_getElem?_getD, List.getElem?_eq_getElem h, Option.getD_some]
theorem ykf {u : UInt8} {c : Int} (h : cOk c) : (u.toNat : Int) = c ↔ u = ub c := by
 constructor
 · rintro rfl
   apply UInt8.toNat_inj.1
   rw [ub, UInt8.toNat_ofNat', Int.toNat_natCast]
   have := u.toNat_lt; omega
 · rintro rfl
   exact ypt h.1 h.2
theorem yj8 {s : List UInt8} {c : Int} {x : Cx} (h : cxI s c x) (hi : x.i < s.length) (hc : s[x.i] = ub c) : cxI s c ⟨x.i + 1, x.i + 1, x.q + 1⟩ /\ zca (spC s c) x.q = (s.take x.i).drop x.f /\ x.f <= x.i := by
 rcases h with ⟨h1, h2, h3, h4, h5⟩ | ⟨h1, _⟩
 · have e := zif (c := ub c) (s := s.drop x.f) (m := x.i - x.f) (fun k hk => by rw [List.getElem?_drop]; exact h4 _ (by omega) (by omega)) (by rw [List.getElem?_drop, show x.f + (x.i - x.f) = x.i by omega, List.getElem?_eq_getElem hi, hc])
   rw [h3, List.drop_drop, show x.f + (x.i - x.f + 1) = x.i + 1 by omega] at e
   rw [List.drop_eq_getElem_cons h5] at e
   obtain ⟨e1, e2⟩ := List.cons.inj e
   refine ⟨.inl ⟨by show x.i + 1 <= _; omega, Nat.le_refl _, e2.symm, fun k hk hk' => by (have : x.i + 1 <= k := hk); (have : k < x.i + 1 := hk'); omega, ?_⟩, ?_, h2⟩
   · show x.q + 1 < _
     have hl := congrArg List.length e2
     have := zb1 (ub c) (s.drop (x.i + 1))
     rw [List.length_drop] at hl
     omega
   · rw [zca, List.getD_eq_getElem?_getD, List.getElem?_eq_getElem h5]
     show (spC s c)[x.q] = _
     rw [e1, List.drop_take]
 · omega
theorem yj7 {s : List UInt8} {c : Int} {x : Cx} (h : cxI s c x) (hi : x.i = s.length) : cxI s c ⟨x.i + 1, x.i + 1, x.q + 1⟩ /\ zca (spC s c) x.q = (s.take x.i).drop x.f /\ x.f <= x.i := by
 rcases h with ⟨h1, h2, h3, h4, h5⟩ | ⟨h1, _⟩
 · have e := zf9 (c := ub c) (s := s.drop x.f) (fun k hk => by
     rw [List.getElem?_drop] at hk
     have := (List.getElem?_eq_some_iff.1 hk).1
     exact h4 (x.f + k) (by omega) (by omega) hk)
   rw [h3, List.drop_eq_getElem_cons h5] at e
   obtain ⟨e1, e2⟩ := List.cons.inj e
   have hl := congrArg List.length e2
   rw [List.length_drop, List.length_nil] at hl
   refine ⟨.inr ⟨by show x.i + 1 = _; omega, by show x.q + 1 = _; omega⟩, ?_, h2⟩
   rw [zca, List.getD_eq_getElem?_getD, List.getElem?_eq_getElem h5]
   show (spC s c)[x.q] = _
   rw [e1, List.take_of_length_le (by omega)]
 · omega
theorem yll {s : List UInt8} {c : Int} {x : Cx} (h : cxI s c x) (hi : x.i < s.length) (hc : s[x.i] ≠ ub c) : cxI s c ⟨x.i + 1, x.f, x.q⟩ := by
 rcases h with ⟨h1, h2, h3, h4, h5⟩ | ⟨h1, _⟩
 · refine .inl ⟨by show x.i + 1 <= _; omega, by show x.f <= x.i + 1; omega, h3, fun k hk hk' => ?_, h5⟩
   by_cases hki : k = x.i
   · rw [hki, List.getElem?_eq_getElem hi]
     exact fun e => hc (Option.some.inj e)
   · have hk' : k < x.i + 1 := hk'
     exact h4 k hk (by omega)
 · omega
theorem zzn (s : List UInt8) (c : Int) : (spC s c).length <= s.length + 1 := by
 rw [spC, zb1]
 have := List.count_le_length (a := ub c) (l := s)
 omega
theorem cx_q {s : List UInt8} {c : Int} {x : Cx} (h : cxI s c x) : x.q <= (spC s c).length /\ x.i <= s.length + 1 := by
 rcases h with ⟨h1, h2, h3, h4, h5⟩ | ⟨h1, h2⟩
 · exact ⟨by omega, by omega⟩
 · exact ⟨by omega, by omega⟩
theorem yaz {P : List (List UInt8)} {q : Nat} {t : List UInt8} (h : zca P q = t) (i j : Nat) (hi : i < q + 1) (hj : j < 1) : zia std (zbw i q) (.str (zca P i)) (.str (zca [t] (i - q))) = .str (zca P i) := by
 by_cases hk : i < q
 · rw [zgl hk]; rfl
 · have : i = q := by omega
   subst this
   rw [zht (by omega), Nat.sub_self, h]; rfl
theorem yay : zaz Tryz.prog (yax std) := by
 intro xs p r h hp
 dsimp only [yax] at h |-
 split at h <;> cases h
 try simp only [L2, L3, std] at hp |-
 rename_i s c
 obtain ⟨hp, hc⟩ : s.length <= 1000000 /\ cOk c := hp
 refine zac (T := tt) (S := noS) (lo := fun L => rcA L s c) (lb := noA) 5 (fn := Tryz.f151) rfl rfl (by kernel_rfl) (by kernel_rfl) rfl zab (zbh _) (by kernel_rfl) ?_
 intro L P' Q' hL hP hQ
 (cbv; try simp only [syT, true_and, and_true])
 refine ⟨⟨⟨0, 0, 0⟩, ?_⟩, fun x hx => ?_⟩
 · (cbv; try simp only [syT, true_and, and_true])
   (subst hL; subst hQ; simp only [L2, L3, std] at *; try simp only [syS, reduceCtorEq, Int.reduceToNat, Int.reduceAdd, Int.reduceSub] at *)
   exact .inl ⟨Nat.zero_le _, Nat.le_refl _, rfl, fun k _ hk => by (have hk : k < 0 := hk); omega, by rw [spC, zb1]; exact Nat.succ_pos _⟩
 · cbv at hx
   (cbv; try simp only [syT, true_and, and_true])
   obtain ⟨i', hi'⟩ : ∃ i', i' = x.i + 1 := ⟨_, rfl⟩
   obtain ⟨q', hq'⟩ : ∃ q', q' = x.q + 1 := ⟨_, rfl⟩
   have hxx : cxI s c x := by
     have h := hx
     rw [hL] at h
     exact h
   have hb := cx_q hxx
   have hsl := zzn s c
   refine ⟨fun h1 => ⟨fun h2 => ⟨?_, ?_, ⟨i', i', q'⟩, ?_⟩, fun h2 => ⟨?_, fun h3 => ⟨?_, ?_, ⟨i', i', q'⟩, ?_⟩, fun h3 => ⟨⟨i', x.f, x.q⟩, ?_⟩⟩⟩, fun h1 => ?_⟩
   · (subst hL; subst hQ; simp only [L2, L3, std] at *; try simp only [syS, reduceCtorEq, Int.reduceToNat, Int.reduceAdd, Int.reduceSub] at *)
     have := (yj7 hx (by omega)).2.2
     omega
   · (subst hL; subst hQ; simp only [L2, L3, std] at *; try simp only [syS, reduceCtorEq, Int.reduceToNat, Int.reduceAdd, Int.reduceSub] at *)
     omega
   · (cbv; try simp only [syT, true_and, and_true])
     (subst hL; subst hQ; simp only [L2, L3, std] at *; try simp only [syS, reduceCtorEq, Int.reduceToNat, Int.reduceAdd, Int.reduceSub] at *)
     obtain ⟨r1, r2, r3⟩ := yj7 hx (by omega)
     subst hi' hq'
     exact ⟨⟨rfl, yaz r2⟩, rfl, by omega, by omega, r1, by omega⟩
   · (subst hL; subst hQ; simp only [L2, L3, std] at *; try simp only [syS, reduceCtorEq, Int.reduceToNat, Int.reduceAdd, Int.reduceSub] at *)
     omega
   · (subst hL; subst hQ; simp only [L2, L3, std] at *; try simp only [syS, reduceCtorEq, Int.reduceToNat, Int.reduceAdd, Int.reduceSub] at *)
     have hlt : x.i < s.length := by omega
     have := (yj8 hx hlt ((ykf hc).1 (by rw [<- zzo hlt]; exact h3))).2.2
     omega
   · (subst hL; subst hQ; simp only [L2, L3, std] at *; try simp only [syS, reduceCtorEq, Int.reduceToNat, Int.reduceAdd, Int.reduceSub] at *)
     omega
   · (cbv; try simp only [syT, true_and, and_true])
     (subst hL; subst hQ; simp only [L2, L3, std] at *; try simp only [syS, reduceCtorEq, Int.reduceToNat, Int.reduceAdd, Int.reduceSub] at *)
     have hlt : x.i < s.length := by omega
     obtain ⟨r1, r2, r3⟩ := yj8 hx hlt ((ykf hc).1 (by rw [<- zzo hlt]; exact h3))
     subst hi' hq'
     exact ⟨⟨rfl, yaz r2⟩, rfl, by omega, by omega, r1, by omega⟩
   · (cbv; try simp only [syT, true_and, and_true])
     (subst hL; subst hQ; simp only [L2, L3, std] at *; try simp only [syS, reduceCtorEq, Int.reduceToNat, Int.reduceAdd, Int.reduceSub] at *)
     have hlt : x.i < s.length := by omega
     have r1 := yll hx hlt (fun e => h3 (by show zhu s (zav x.i) = c; rw [zzo hlt]; exact (ykf hc).2 e))
     subst hi' hq'
     exact ⟨by omega, r1, by omega⟩
   · (subst hL; subst hQ; simp only [L2, L3, std] at *; try simp only [syS, reduceCtorEq, Int.reduceToNat, Int.reduceAdd, Int.reduceSub] at *)
     rcases hx with ⟨g1, -⟩ | ⟨g1, g2⟩
     · omega
     · rw [g2]
       show zic (.lst 1 (spC s c).length _) _
       rw [zex]
       exact ⟨rfl, fun i j hi hj => rfl⟩
def zoh (L : zaa) : zbg := (71, fun xs => match xs with
 | [.agg [.int .u8 a, .int .u8 b, .int .u8 c, .int .u8 d, .int .u16 p]] => some (L zqe (zlm L a b c d p), .str (L plB (zlm L a b c d p)))
 | _ => none)
theorem zsi : zaz Tryz.prog (zoh std) := by
 intro xs p r h hp
 dsimp only [zoh] at h |-
 split at h <;> cases h
 try simp only [L2, L3, std] at hp |-
 rename_i a b c d p
 have hp : zqe ⟨a, b, c, d, p⟩ := hp
 refine zac (T := tt) (S := noS) (lo := noA) (lb := noA) 5 (fn := Tryz.f71) rfl rfl (by kernel_rfl) (by kernel_rfl) rfl zab (zbh _) (by kernel_rfl) ?_
 (intro L P1 Q1 hL hP hQ; cbv; subst hL; simp only [L2, L3, std, syT]; subst hQ)
 (simp only [syS, reduceCtorEq, Int.reduceToNat, Int.reduceAdd, Int.reduceSub])
 obtain ⟨-, -, -, -, h1, h2⟩ := hp
 simp only at h1 h2
 refine ⟨by omega, by omega, by omega, by omega, by decide, by decide, ⟨by omega, fun i _ => ⟨_, rfl⟩⟩, ?_⟩
 have e1 : yip .u16 p 256 % 256 = p / 256 := by
   have e : yip .u16 p 256 = IntKind.u16.wrap (p.tdiv 256) := rfl
   rw [e, ypq, Int.tdiv_eq_ediv_of_nonneg h1]; omega
 have e2 : p.tmod 256 % 256 = p % 256 := by rw [Int.tmod_eq_emod_of_nonneg h1]; omega
 rw [e1, e2]
 rfl
def zum (L : zaa) : zbg := (58, fun xs => match xs with
 | [.agg [.int .u8 a, .int .u8 b, .int .u8 c, .int .u8 d, .int .u16 p]] => some (True, .bool (L zen (zlm L a b c d p)))
 | _ => none)
theorem zq6 : zaz Tryz.prog (zum std) := by
 intro xs p r h hp
 dsimp only [zum] at h |-
 split at h <;> cases h
 try simp only [L2, L3, std] at hp |-
 rename_i a b c d p
 refine zac (T := tt) (S := noS) (lo := noA) (lb := noA) 5 (fn := Tryz.f58) rfl rfl (by kernel_rfl) (by kernel_rfl) rfl zab (zbh _) (by kernel_rfl) ?_
 (intro L P1 Q1 hL hP hQ; cbv; subst hL; simp only [L2, L3, std, syT]; subst hQ)
 (simp only [syS, reduceCtorEq, Int.reduceToNat, Int.reduceAdd, Int.reduceSub])
 show _ /\ (a = 0 -> _ /\ (b = 0 -> _ /\ (c = 0 -> _ /\ ieq d 0 = (decide (a = 0) && (decide (b = 0) && (decide (c = 0) && decide (d = 0))))) /\ (¬ c = 0 -> false = (decide (a = 0) && (decide (b = 0) && (decide (c = 0) && decide (d = 0)))))) /\
   (¬ b = 0 -> false = (decide (a = 0) && (decide (b = 0) && (decide (c = 0) && decide (d = 0)))))) /\ (¬ a = 0 -> false = (decide (a = 0) && (decide (b = 0) && (decide (c = 0) && decide (d = 0)))))
 simp +contextual [ieq, Bool.beq_eq_decide_eq]
def zsd (L : zaa) : zbg := (55, fun xs => match xs with
 | [.agg [.int .u8 a, .int .u8 b, .int .u8 c, .int .u8 d, .int .u16 p], .agg [.int .u8 e, .int .u8 f, .int .u8 g, .int .u8 h, .int .u16 q]] => some (True, .bool (L2 L zgq (zlm L a b c d p) (zlm L e f g h q)))
 | _ => none)
theorem zx2 : zaz Tryz.prog (zsd std) := by
 intro xs p r h hp
 dsimp only [zsd] at h |-
 split at h <;> cases h
 try simp only [L2, L3, std] at hp |-
 rename_i a b c d p e f g h q
 refine zac (T := tt) (S := fun L => zao [zum L]) (lo := noA) (lb := noA) 5 (fn := Tryz.f55) rfl rfl (by kernel_rfl) (by kernel_rfl) rfl zab (za3 ⟨zq6, trivial⟩) (by kernel_rfl) ?_
 (intro L P1 Q1 hL hP hQ; cbv; subst hL; simp only [L2, L3, std, syT]; subst hQ)
 (simp only [syS, reduceCtorEq, Int.reduceToNat, Int.reduceAdd, Int.reduceSub])
 generalize hX : zen (zlm std a b c d p) = X
 generalize hY : zen (zlm std e f g h q) = Y
 have hM : zgq (zlm std a b c d p) (zlm std e f g h q) = (decide (p = q) && (decide (a = e /\ b = f /\ c = g /\ d = h) || (X || Y))) := by rw [<- hX, <- hY]; rfl
 rw [hM]
 clear hM hX hY
 simp only [zdf, List.getD_cons_zero, List.getD_cons_succ]
 cases X <;> cases Y <;> simp +contextual [ieq, Bool.beq_eq_decide_eq]
def okH (s : List UInt8) (k : Nat) : Bool := yja (za9 s k) || (decide (za9 s k = 45) && (decide (0 < k) && decide (k + 1 < s.length)))
def yhp (s : List UInt8) (i : Nat) : Prop := i <= s.length /\ ∀ k, k < i -> okH s k = true
def yg6 (c : Int) (k n : Nat) : Prop := (97 <= c /\ c <= 122) \/ (48 <= c /\ c <= 57) \/ (c = 45 /\ 0 < k /\ k + 1 < n)
theorem yg5 {s : List UInt8} {k : Nat} : okH s k = true ↔ yg6 (za9 s k) k s.length := by
 simp only [okH, yja, zt3, yg6, Bool.or_eq_true, Bool.and_eq_true, decide_eq_true_eq, or_assoc]
theorem ysb {c : Int} : zvi c = true ↔ (97 <= c /\ c <= 122) \/ (48 <= c /\ c <= 57) \/ c = 45 := by
 simp only [zvi, yja, zt3, Bool.or_eq_true, Bool.and_eq_true, decide_eq_true_eq, or_assoc]
theorem yhd {s : List UInt8} {i : Nat} (hi : i < s.length) (h : ¬ yg6 (za9 s i) i s.length) : zck s = false := by
 unfold yg6 at h
 by_cases hc : zvi (za9 s i) = true
 · have hc := ysb.1 hc
   have h45 : za9 s i = 45 := by omega
   by_cases h0 : i = 0
   · subst h0
     unfold zck
     rw [decide_eq_true h45]; simp
   · have hl : i = s.length - 1 := by omega
     unfold zck
     rw [decide_eq_true (show zp1 s = 45 by rw [zp1, <- hl]; exact h45)]; simp
 · unfold zck
   rw [zjt hi (by simpa using hc)]; simp
theorem zqv {s : List UInt8} {i : Nat} (h : yhp s i) (hi : s.length <= i) : zck s = (decide (0 < s.length) && decide (s.length <= 32)) := by
 have hi' : i = s.length := Nat.le_antisymm h.1 hi
 subst hi'
 by_cases h0 : s = []
 · subst h0; rfl
 · have hp : 0 < s.length := List.length_pos_iff.2 h0
   have a0 := yg5.1 (h.2 0 hp)
   have a1 := yg5.1 (h.2 (s.length - 1) (by omega))
   have hall : zw7 zvi s = true := zfo (i := s.length) ⟨Nat.le_refl _, fun k hk => ysb.2 (by have := yg5.1 (h.2 k hk); unfold yg6 at this; omega)⟩ (Nat.le_refl _)
   unfold yg6 at a0 a1
   unfold zck
   rw [hall, decide_eq_false h0, decide_eq_false (show ¬ za9 s 0 = 45 by omega), decide_eq_false (show ¬ zp1 s = 45 by unfold zp1; omega), decide_eq_true hp]
   by_cases h32 : 32 < s.length
   · rw [decide_eq_true h32, decide_eq_false (by omega)]; rfl
   · rw [decide_eq_false h32, decide_eq_true (by omega)]; rfl
theorem zy7 {s : List UInt8} {i : Nat} (h : yhp s i) (hi : i < s.length) (hf : yg6 (za9 s i) i s.length) : yhp s (i + 1) :=
 ⟨hi, fun k hk => by
   rcases Nat.lt_succ_iff_lt_or_eq.1 hk with h1 | h1
   · exact h.2 k h1
   · rw [h1]; exact yg5.2 hf⟩
theorem pw {i : Nat} (h1 : (i : Int) <= 1000000) : ((i : Int) + 1 + 9223372036854775808) % 18446744073709551616 - 9223372036854775808 = (i : Int) + 1 := by omega
def zsb (L : zaa) : zbg := (152, fun xs => match xs with
 | [.str s] => some (L2 L upto 1000000 s, .bool (L zck s))
 | _ => none)
def yqg (L : zaa) (s : List UInt8) : Nat -> St -> Option Ann := fun id st => match id with
 | 0 => some ⟨Nat, fun i => [(3, .int .i64 (L zav i))], fun i => [], [0], [], fun i => L2 L yhp s i, fun i => L2 L toC s i⟩
 | _ => none
theorem zwz : zaz Tryz.prog (zsb std) := by
 intro xs p r h hp
 dsimp only [zsb] at h |-
 split at h <;> cases h
 try simp only [L2, L3, std] at hp |-
 rename_i s
 have hp : s.length <= 1000000 := hp
 refine za2 (T := tt) (S := noS) (lo := fun L => yqg L s) (lb := noA) 5 (fn := Tryz.f152) (xs := fun L => [.str s]) rfl rfl (by kernel_rfl) (by kernel_rfl) rfl zab (zbh _) (by kernel_rfl) ?_
 intro L P' Q' hL hP hQ
 (cbv; try simp only [syT, true_and, and_true])
 refine ⟨⟨0, ?_⟩, fun i hi => ?_⟩
 · (cbv; try simp only [syT, true_and, and_true])
   (subst hL; subst hQ; simp only [L2, L3, std] at *; try simp only [syS, reduceCtorEq, Int.reduceToNat, Int.reduceAdd, Int.reduceSub] at *)
   exact ⟨Nat.zero_le _, fun k hk => by omega⟩
 · cbv at hi
   (cbv; try simp only [syT, true_and, and_true])
   repeat' first | refine And.intro ?_ ?_ | refine fun (hh : (_ : Bool) = _) => ?_
   all_goals try (refine ⟨i + 1, ?_⟩; (cbv; try simp only [syT, true_and, and_true]))
   all_goals (subst hL; subst hQ; simp only [L2, L3, std] at *; try simp only [syS, reduceCtorEq, Int.reduceToNat, Int.reduceAdd, Int.reduceSub] at *)
   all_goals have hw := hi.1
   all_goals have hE : za9 s i = ((s.getD i 0).toNat : Int) := rfl
   all_goals try simp only [pw (i := i) (by omega), <- hE] at *
   all_goals first
     | (refine ⟨by omega, zy7 hi (by omega) (by unfold yg6; omega), ?_⟩
        show s.length - (i + 1) + 1 <= s.length - i
        omega)
     | exact (yhd (i := i) (by omega) (by unfold yg6; omega)).symm
     | exact ⟨by omega, by omega⟩
     | (rw [zqv hi (by omega), decide_eq_true (show 0 < s.length by omega)]
        show decide ((s.length : Int) <= 32) = _
        rw [Bool.true_and]
        exact decide_eq_decide.2 (by omega))
     | (rw [zqv hi (by omega), decide_eq_false (show ¬ 0 < s.length by omega)]; rfl)
def zi2 (l : List (List UInt8)) : List (List UInt8) := if zca l 0 = [42] /\ 1 < l.length then l.drop 1 else l
def ziu (s : List UInt8) : Int := if s = [] then 3 else if 64 < s.length then 5 else if (zi2 (zam s [46])).all zck then 0 else 4
def yih (l : List (List UInt8)) (i : Nat) : Prop := i <= l.length /\ ∀ k, k < i -> zck (zca l k) = true
def toP3 (l : List (List UInt8)) (i : Nat) : Nat := l.length - i
theorem zj4 {l : List (List UInt8)} {i : Nat} (h : yih l i) (hi : l.length <= i) : l.all zck = true := by
 rw [List.all_eq_true]
 intro b hb
 obtain ⟨k, hk, rfl⟩ := List.getElem_of_mem hb
 have := h.2 k (by omega)
 rwa [zca, List.getD_eq_getElem?_getD, List.getElem?_eq_getElem hk] at this
theorem zkt {l : List (List UInt8)} {i : Nat} (hi : i < l.length) (h : zck (zca l i) = false) : l.all zck = false := by
 rw [List.all_eq_false]
 refine ⟨l[i], List.getElem_mem hi, ?_⟩
 rw [zca, List.getD_eq_getElem?_getD, List.getElem?_eq_getElem hi] at h
 have h : zck l[i] = false := h
 rw [h]; decide
theorem znt {l : List (List UInt8)} {i : Nat} (h : yih l i) (hi : i < l.length) (hf : zck (zca l i) = true) : yih l (i + 1) :=
 ⟨hi, fun k hk => by
   rcases Nat.lt_succ_iff_lt_or_eq.1 hk with h1 | h1
   · exact h.2 k h1
   · rw [h1]; exact hf⟩
theorem ztb {l : List (List UInt8)} (h1 : zca l 0 = [42]) (h2 : 1 < l.length) : (zi2 l).length = l.length - 1 /\ ∀ i, zca (zi2 l) i = zca l (Nat.add 1 i) := by
 rw [zi2, if_pos ⟨h1, h2⟩]
 refine ⟨by simp, fun i => ?_⟩
 rw [zca, zca, List.getD_eq_getElem?_getD, List.getD_eq_getElem?_getD, List.getElem?_drop]; rfl
theorem ycm {l : List (List UInt8)} (h : ¬ zca l 0 = [42] \/ l.length <= 1) : zi2 l = l := by
 refine if_neg (fun q => ?_)
 rcases h with h | h
 · exact h q.1
 · have := q.2
   omega
theorem zp8 {s : List UInt8} (h1 : ¬ s = []) (h2 : s.length <= 64) (h : (zi2 (zam s [46])).all zck = true) : ziu s = 0 := by rw [ziu, if_neg h1, if_neg (by omega), if_pos h]
theorem zp7 {s : List UInt8} (h1 : ¬ s = []) (h2 : s.length <= 64) (h : (zi2 (zam s [46])).all zck = false) : ziu s = 4 := by rw [ziu, if_neg h1, if_neg (by omega), if_neg (by rw [h]; decide)]
theorem zpu (s : List UInt8) : 0 < (zam s [46]).length /\ (zam s [46]).length <= s.length + 1 := by
 have := zzn s 46
 have e : (spC s 46).length = (zam s [46]).length := rfl
 refine ⟨?_, by omega⟩
 rw [zam, zb1]; exact Nat.succ_pos _
def yck (L : zaa) : zbg := (96, fun xs => match xs with
 | [.str s] => some (L2 L upto 1000000000 s, .int .i64 (L ziu s))
 | _ => none)
def yw7 (L : zaa) (s : List UInt8) : Nat -> St -> Option Ann := fun id st => match id with
 | 0 => some ⟨Nat, fun i => [(26, .int .i64 (L zav i))], fun i => [], [24, 25], [], fun i => L2 L yih (L zi2 (L2 L zam s [46])) i, fun i => L2 L toP3 (L zi2 (L2 L zam s [46])) i⟩
 | _ => none
theorem ycl : zaz Tryz.prog (yck std) := by
 intro xs p r h hp
 dsimp only [yck] at h |-
 split at h <;> cases h
 try simp only [L2, L3, std] at hp |-
 rename_i s
 refine za2 (T := tt) (S := fun L => zao [yf3 L, yba L]) (lo := fun L => yw7 L s) (lb := noA) 5 (fn := Tryz.f96) (xs := fun L => [.str s]) rfl rfl (by kernel_rfl) (by kernel_rfl) rfl zab (za3 ⟨zug, ybb, trivial⟩) (by kernel_rfl) ?_
 intro L P' Q' hL hP hQ
 (cbv; try simp only [syT, true_and, and_true])
 repeat' first | refine And.intro ?_ ?_ | refine fun (hh : (_ : Bool) = _) => ?_
 all_goals try (refine ⟨0, ?_⟩; (cbv; try simp only [syT, true_and, and_true]))
 all_goals try
   (intro i hi
    cbv at hi
    (cbv; try simp only [syT, true_and, and_true])
    repeat' first | refine And.intro ?_ ?_ | refine fun (hh : (_ : Bool) = _) => ?_
    all_goals try (refine ⟨i + 1, ?_⟩; (cbv; try simp only [syT, true_and, and_true])))
 all_goals (subst hL; subst hQ; simp only [L2, L3, std] at *; try simp only [syS, reduceCtorEq, Int.reduceToNat, Int.reduceAdd, Int.reduceSub] at *)
 all_goals have hls : zhz (zam s [46]) = (zam s [46]).length := rfl
 all_goals have hsp := zpu s
 all_goals try (have g1 : ¬ s = [] := by assumption)
 all_goals try (have g2 : (s.length : Int) <= 64 := by assumption)
 all_goals try (have g2 : s.length <= 64 := by omega)
 all_goals try
   (have g3 : zca (zam s [46]) 0 = [42] := by assumption
    have g4 : 1 < ((zhz (zam s [46]) : Nat) : Int) := by assumption
    have g5 : 1 < (zam s [46]).length := by omega
    obtain ⟨A1, A2⟩ := ztb g3 g5)
 all_goals try
   (have g3 : ¬ zca (zam s [46]) 0 = [42] := by assumption
    have B0 := ycm (.inl g3))
 all_goals try
   (have g5 : ((zhz (zam s [46]) : Nat) : Int) <= 1 := by assumption
    have g6 : (zam s [46]).length <= 1 := by omega
    have B0 := ycm (.inr g6))
 all_goals first
   | exact (if_pos (by assumption)).symm
   | exact (by rw [ziu, if_neg g1, if_pos (by omega)] : ziu s = 5).symm
   | rfl
   | exact ⟨by omega, by omega⟩
   | exact ⟨Nat.zero_le _, fun k hk => by omega⟩
   | (show s.length <= 1000000000; omega)
   | (refine (zp7 g1 g2 (zkt (i := i) (by omega) ?_)).symm
      rw [A2]; assumption)
   | (refine (zp7 g1 g2 ?_).symm
      rw [B0]
      exact zkt (i := i) (by omega) (by assumption))
   | (refine (zp8 g1 g2 (zj4 hi (by omega))).symm)
   | (refine (zp8 g1 g2 (zj4 hi (by rw [B0]; omega))).symm)
   | (refine ⟨by omega, znt hi (by omega) (by rw [A2]; assumption), ?_⟩
      show (zi2 (zam s [46])).length - (i + 1) + 1 <= (zi2 (zam s [46])).length - i
      omega)
   | (refine ⟨by omega, znt hi (by rw [B0]; omega) (by rw [B0]; assumption), ?_⟩
      show (zi2 (zam s [46])).length - (i + 1) + 1 <= (zi2 (zam s [46])).length - i
      rw [B0]
      omega)
end Sy
end Go.Proofs.YthppjaoicibeiaaGreatDoor
namespace Go.Proofs.YthppjaoicibeiaaGreatDoor
namespace Sy
open Go Go.RowKit
end Sy
end Go.Proofs.YthppjaoicibeiaaGreatDoor
namespace Go.Proofs.YthppjaoicibeiaaGreatDoor
namespace Sy
open Go Go.RowKit
set_option maxRecDepth 100000
set_option linter.unusedSimpArgs false
set_option linter.unusedVariables false
def zq9 (a b : List UInt8) : Bool := a.take b.length == b
def zq8 (a b : List UInt8) : Prop := a.length <= 1000000000 /\ b.length <= 1000000000
def zuo (L : zaa) : zbg := (183, fun xs => match xs with | [.str a, .str b] => some (L2 L zq8 a b, .bool (L2 L zq9 a b)) | _ => none)
def yls (L : zaa) : zbg := (145, fun xs => match xs with | [.str a, .str b] => some (L2 L zq8 a b, .bool (L2 L zq9 a b)) | _ => none)
theorem zqa : zaz Tryz.prog (zuo std) := by
 intro xs p r h hp
 dsimp only [zuo] at h |-
 split at h <;> cases h
 try simp only [L2, L3, std] at hp |-
 rename_i a b
 refine zac (T := tt) (S := noS) (lo := noA) (lb := noA) 5 (fn := Tryz.f183) rfl rfl (by kernel_rfl) (by kernel_rfl) rfl zab (zbh _) (by kernel_rfl) ?_
 (intro L P1 Q1 hL hP hQ; cbv; subst hL; simp only [L2, L3, std, syT]; subst hQ)
 (simp only [syS, reduceCtorEq, Int.reduceToNat, Int.reduceAdd, Int.reduceSub])
 exact ⟨fun h => ⟨by omega, rfl⟩, fun h => by
   have : ¬ a.take b.length = b := fun e => by have := congrArg List.length e; simp at this; omega
   simp [zq9, this]⟩
theorem yfy : zaz Tryz.prog (yls std) := by
 intro xs p r h hp
 dsimp only [yls] at h |-
 split at h <;> cases h
 try simp only [L2, L3, std] at hp |-
 rename_i a b
 refine zac (T := tt) (S := fun L => zao [zuo L]) (lo := noA) (lb := noA) 5 (fn := Tryz.f145) rfl rfl (by kernel_rfl) (by kernel_rfl) rfl zab (za3 ⟨zqa, trivial⟩) (by kernel_rfl) ?_
 (intro L P1 Q1 hL hP hQ; cbv; subst hL; simp only [L2, L3, std, syT]; subst hQ)
 (simp only [syS, reduceCtorEq, Int.reduceToNat, Int.reduceAdd, Int.reduceSub])
 exact hp
def ytw (l : List (List UInt8)) (k : Nat) : Prop := zck (zca l k) = true \/ (zca l k = [42] /\ k = 0 /\ 1 < l.length)
def yft (l : List (List UInt8)) (i : Nat) : Prop := i <= l.length /\ ∀ k, k < i -> ytw l k
theorem yv7 {s : List UInt8} {i : Nat} (h1 : ¬ s = []) (h2 : s.length <= 64) (hi : i < (zam s [46]).length) (h : ¬ ytw (zam s [46]) i) : ziu s = 4 := by
 unfold ytw at h
 have hf : zck (zca (zam s [46]) i) = false := by
   cases hc : zck (zca (zam s [46]) i) with
   | false => rfl
   | true => exact absurd (.inl hc) h
 by_cases hs : zca (zam s [46]) 0 = [42] /\ 1 < (zam s [46]).length
 · obtain ⟨A1, A2⟩ := ztb hs.1 hs.2
   have hi0 : i ≠ 0 := by
     rintro rfl
     exact h (.inr ⟨hs.1, rfl, hs.2⟩)
   refine zp7 h1 h2 (zkt (i := i - 1) (by omega) ?_)
   rw [A2]
   show zck (zca (zam s [46]) (1 + (i - 1))) = false
   rw [show 1 + (i - 1) = i by omega]
   exact hf
 · have B0 : zi2 (zam s [46]) = zam s [46] := if_neg hs
   refine zp7 h1 h2 ?_
   rw [B0]
   exact zkt hi hf
theorem yqn {s : List UInt8} {i : Nat} (h1 : ¬ s = []) (h2 : s.length <= 64) (h : yft (zam s [46]) i) (hi : (zam s [46]).length <= i) : ziu s = 0 := by
 have hi' : i = (zam s [46]).length := Nat.le_antisymm h.1 hi
 subst hi'
 have h42 : zck [42] = false := by decide
 by_cases hs : zca (zam s [46]) 0 = [42] /\ 1 < (zam s [46]).length
 · obtain ⟨A1, A2⟩ := ztb hs.1 hs.2
   refine zp8 h1 h2 (zj4 (i := (zam s [46]).length - 1) ⟨by omega, fun k hk => ?_⟩ (by omega))
   rw [A2]
   rcases h.2 (1 + k) (by omega) with q | q
   · exact q
   · exact absurd q.2.1 (by omega)
 · have B0 : zi2 (zam s [46]) = zam s [46] := if_neg hs
   refine zp8 h1 h2 ?_
   rw [B0]
   refine zj4 (i := (zam s [46]).length) ⟨Nat.le_refl _, fun k hk => ?_⟩ (Nat.le_refl _)
   rcases h.2 k hk with q | q
   · exact q
   · obtain ⟨q1, rfl, q3⟩ := q
     exact absurd ⟨q1, q3⟩ hs
theorem yak {l : List (List UInt8)} {i : Nat} (h : yft l i) (hi : i < l.length) (hf : ytw l i) : yft l (i + 1) :=
 ⟨hi, fun k hk => by
   rcases Nat.lt_succ_iff_lt_or_eq.1 hk with h1 | h1
   · exact h.2 k h1
   · rw [h1]; exact hf⟩
def zsf (L : zaa) : zbg := (104, fun xs => match xs with
 | [.str s] => some (L2 L upto 1000000 s, .int .i64 (L ziu s))
 | _ => none)
def yqm (L : zaa) (s : List UInt8) : Nat -> St -> Option Ann := fun id st => match id with
 | 0 => some ⟨Nat, fun i => [(16, .int .i64 (L zav i))], fun i => [], [3, 14, 15], [], fun i => L2 L yft (L2 L spC s 46) i, fun i => L2 L toP3 (L2 L spC s 46) i⟩
 | _ => none
theorem zx4 : zaz Tryz.prog (zsf std) := by
 intro xs p r h hp
 dsimp only [zsf] at h |-
 split at h <;> cases h
 try simp only [L2, L3, std] at hp |-
 rename_i s
 have hp : s.length <= 1000000 := hp
 refine za2 (T := tt) (S := fun L => zao [yax L, zsb L]) (lo := fun L => yqm L s) (lb := noA) 5 (fn := Tryz.f104) (xs := fun L => [.str s]) rfl rfl (by kernel_rfl) (by kernel_rfl) rfl zab (za3 ⟨yay, zwz, trivial⟩) (by kernel_rfl) ?_
 intro L P' Q' hL hP hQ
 (cbv; try simp only [syT, true_and, and_true])
 repeat' first | refine And.intro ?_ ?_ | refine fun (hh : (_ : Bool) = _) => ?_
 all_goals try (refine ⟨0, ?_⟩; (cbv; try simp only [syT, true_and, and_true]))
 all_goals try
   (intro i hi
    cbv at hi
    (cbv; try simp only [syT, true_and, and_true])
    repeat' first | refine And.intro ?_ ?_ | refine fun (hh : (_ : Bool) = _) => ?_
    all_goals try (refine ⟨i + 1, ?_⟩; (cbv; try simp only [syT, true_and, and_true])))
 all_goals (subst hL; subst hQ; simp only [L2, L3, std] at *; try simp only [syS, reduceCtorEq, Int.reduceToNat, Int.reduceAdd, Int.reduceSub] at *)
 all_goals have hls : zhz (spC s 46) = (zam s [46]).length := rfl
 all_goals have hsp := zpu s
 all_goals try
   (have g1 : ¬ ((s.length : Nat) : Int) = 0 := by assumption
    have g1 : ¬ s = [] := fun h => g1 (by rw [h]; rfl)
    have g2 : ((s.length : Nat) : Int) <= 64 := by assumption
    have g2 : s.length <= 64 := by omega)
 all_goals first
   | exact (if_pos (List.eq_nil_of_length_eq_zero (by omega))).symm
   | (have g1 : ¬ ((s.length : Nat) : Int) = 0 := by assumption
      have g1 : ¬ s = [] := fun h => g1 (by rw [h]; rfl)
      have g2 : 64 < s.length := by omega
      exact (by rw [ziu, if_neg g1, if_pos g2] : ziu s = 5).symm)
   | exact hp
   | exact ⟨by decide, by decide⟩
   | exact ⟨by omega, by omega⟩
   | exact ⟨Nat.zero_le _, fun k hk => by omega⟩
   | exact Nat.le_trans (ybi _ _ i) hp
   | (refine (yv7 g1 g2 (i := i) (by omega) ?_).symm
      rintro (q | ⟨q1, q2, q3⟩)
      · have r : zck (zca (spC s 46) i) = false := by assumption
        exact absurd (r.symm.trans q) (by decide)
      · first
          | exact absurd (show zca (spC s 46) i = [42] from q1) (by assumption)
          | omega)
   | (refine (yqn g1 g2 hi (by omega)).symm)
   | (refine ⟨by omega, yak hi (show i < (zam s [46]).length by omega) (.inl (show zck (zca (spC s 46) i) = true by assumption)), ?_⟩
      show (zam s [46]).length - (i + 1) + 1 <= (zam s [46]).length - i
      omega)
   | (refine ⟨by omega, yak hi (show i < (zam s [46]).length by omega) (.inr ⟨show zca (spC s 46) i = [42] by assumption, by omega, show 1 < (zam s [46]).length by omega⟩), ?_⟩
      show (zam s [46]).length - (i + 1) + 1 <= (zam s [46]).length - i
      omega)
def cpT (a b : List UInt8) : List UInt8 := if zq9 a b = true then a.drop b.length else a
def yq2 (a b : List UInt8) : Bool := decide (b.length <= a.length) && decide (a.drop (a.length - b.length) = b)
def ynx (L : zaa) : zbg := (197, fun xs => match xs with | [.str a, .str b] => some (L2 L zq8 a b, .tup [.str (L2 L cpT a b), .bool (L2 L zq9 a b)]) | _ => none)
def ywl (L : zaa) : zbg := (174, fun xs => match xs with | [.str a, .str b] => some (L2 L zq8 a b, .tup [.str (L2 L cpT a b), .bool (L2 L zq9 a b)]) | _ => none)
def yl0 (L : zaa) : zbg := (198, fun xs => match xs with | [.str a, .str b] => some (L2 L zq8 a b, .bool (L2 L yq2 a b)) | _ => none)
def yv1 (L : zaa) : zbg := (175, fun xs => match xs with | [.str a, .str b] => some (L2 L zq8 a b, .bool (L2 L yq2 a b)) | _ => none)
theorem ylt {a b : List UInt8} (h : zq9 a b = true) : b.length <= a.length := by
 have h : a.take b.length = b := by simpa [zq9] using h
 have := congrArg List.length h
 simp at this
 omega
theorem yi0 : zaz Tryz.prog (ynx std) := by
 intro xs p r h hp
 dsimp only [ynx] at h |-
 split at h <;> cases h
 try simp only [L2, L3, std] at hp |-
 rename_i a b
 obtain ⟨p1, p2⟩ : zq8 a b := hp
 refine zac (T := tt) (S := fun L => zao [zuo L]) (lo := noA) (lb := noA) 5 (fn := Tryz.f197) rfl rfl (by kernel_rfl) (by kernel_rfl) rfl zab (za3 ⟨zqa, trivial⟩) (by kernel_rfl) ?_
 (intro L P1 Q1 hL hP hQ; cbv; subst hL; simp only [L2, L3, std, syT]; subst hQ)
 (simp only [syS, reduceCtorEq, Int.reduceToNat, Int.reduceAdd, Int.reduceSub])
 refine ⟨⟨p1, p2⟩, fun h => ⟨(if_neg (by rw [h]; decide)).symm, h.symm⟩, fun h => ⟨⟨by omega, ?_⟩, (if_pos h).symm, h.symm⟩⟩
 have := ylt h
 omega
theorem ynw : zaz Tryz.prog (ywl std) := by
 intro xs p r h hp
 dsimp only [ywl] at h |-
 split at h <;> cases h
 try simp only [L2, L3, std] at hp |-
 rename_i a b
 refine zac (T := tt) (S := fun L => zao [ynx L]) (lo := noA) (lb := noA) 5 (fn := Tryz.f174) rfl rfl (by kernel_rfl) (by kernel_rfl) rfl zab (za3 ⟨yi0, trivial⟩) (by kernel_rfl) ?_
 (intro L P1 Q1 hL hP hQ; cbv; subst hL; simp only [L2, L3, std, syT]; subst hQ)
 (simp only [syS, reduceCtorEq, Int.reduceToNat, Int.reduceAdd, Int.reduceSub])
 exact hp
theorem yf5 : zaz Tryz.prog (yl0 std) := by
 intro xs p r h hp
 dsimp only [yl0] at h |-
 split at h <;> cases h
 try simp only [L2, L3, std] at hp |-
 rename_i a b
 obtain ⟨p1, p2⟩ : zq8 a b := hp
 refine zac (T := tt) (S := noS) (lo := noA) (lb := noA) 5 (fn := Tryz.f198) rfl rfl (by kernel_rfl) (by kernel_rfl) rfl zab (zbh _) (by kernel_rfl) ?_
 (intro L P1 Q1 hL hP hQ; cbv; subst hL; simp only [L2, L3, std, syT]; subst hQ)
 (simp only [syS, reduceCtorEq, Int.reduceToNat, Int.reduceAdd, Int.reduceSub])
 refine ⟨fun h => ?_, fun h => ?_⟩
 · have e : ((a.length : Int) - b.length + 9223372036854775808) % 18446744073709551616 - 9223372036854775808 = ((a.length - b.length : Nat) : Int) := by omega
   rw [e, Int.toNat_natCast]
   refine ⟨⟨by omega, by omega⟩, ?_⟩
   unfold yq2 seq
   rw [decide_eq_true (show b.length <= a.length by omega)]
   simp [Bool.beq_eq_decide_eq]
 · unfold yq2
   rw [decide_eq_false (show ¬ b.length <= a.length by omega)]; rfl
theorem ykz : zaz Tryz.prog (yv1 std) := by
 intro xs p r h hp
 dsimp only [yv1] at h |-
 split at h <;> cases h
 try simp only [L2, L3, std] at hp |-
 rename_i a b
 refine zac (T := tt) (S := fun L => zao [yl0 L]) (lo := noA) (lb := noA) 5 (fn := Tryz.f175) rfl rfl (by kernel_rfl) (by kernel_rfl) rfl zab (za3 ⟨yf5, trivial⟩) (by kernel_rfl) ?_
 (intro L P1 Q1 hL hP hQ; cbv; subst hL; simp only [L2, L3, std, syT]; subst hQ)
 (simp only [syS, reduceCtorEq, Int.reduceToNat, Int.reduceAdd, Int.reduceSub])
 exact hp
def yju (a b : List UInt8) : Bool := decide (zhq a = zhq b) || (zq9 (zhq a) [42, 46] && (!decide (cpT (zhq a) [42, 46] = []) && (decide ((cpT (zhq a) [42, 46]).length + 1 < (zhq b).length) && yq2 (zhq b) (46 :: cpT (zhq a) [42, 46]))))
def yt2 (a b : List UInt8) : Prop := a.length <= 1000000 /\ b.length <= 1000000
def yny (L : zaa) : zbg := (136, fun xs => match xs with | [.str a, .str b] => some (L2 L yt2 a b, .bool (L2 L yju a b)) | _ => none)
theorem yi1 : zaz Tryz.prog (yny std) := by
 intro xs p r h hp
 dsimp only [yny] at h |-
 split at h <;> cases h
 try simp only [L2, L3, std] at hp |-
 rename_i a b
 obtain ⟨p1, p2⟩ : yt2 a b := hp
 refine zac (T := tt) (S := fun L => zao [zoy L, ywl L, yv1 L]) (lo := noA) (lb := noA) 5 (fn := Tryz.f136) rfl rfl (by kernel_rfl) (by kernel_rfl) rfl zab (za3 ⟨znd, ynw, ykz, trivial⟩) (by kernel_rfl) ?_
 (intro L P1 Q1 hL hP hQ; cbv; subst hL; simp only [L2, L3, std, syT]; subst hQ)
 (simp only [syS, reduceCtorEq, Int.reduceToNat, Int.reduceAdd, Int.reduceSub])
 have la : (zhq a).length = a.length := List.length_map _
 have lb : (zhq b).length = b.length := List.length_map _
 have lc : (cpT (zhq a) [42, 46]).length <= (zhq a).length := by
   unfold cpT
   split
   · rw [List.length_drop]; omega
   · omega
 have e : ((cpT (zhq a) [42, 46]).length : Int) + 1 = (((cpT (zhq a) [42, 46]).length + 1 : Nat) : Int) := by omega
 refine ⟨by show a.length <= _; omega, by show b.length <= _; omega, fun h => ?_, fun h => ⟨⟨by omega, by decide⟩, fun h2 => ⟨fun h3 => ⟨fun h4 => ⟨by simp; omega, ⟨by omega, by simp; omega⟩, ?_⟩, fun h4 => ?_⟩, fun h3 => ?_⟩, fun h2 => ?_⟩⟩
 · unfold yju; rw [decide_eq_true h]; rfl
 · unfold yju
   rw [decide_eq_false h, h2, decide_eq_false h3, decide_eq_true (by omega)]; rfl
 · unfold yju
   rw [decide_eq_false h, h2, decide_eq_false h3, decide_eq_false (show ¬ (cpT (zhq a) [42, 46]).length + 1 < (zhq b).length by omega)]; rfl
 · unfold yju
   rw [decide_eq_false h, h2, decide_eq_true h3]; rfl
 · unfold yju
   rw [decide_eq_false h, h2]; rfl
theorem zyn : za7 Tryz.prog 86 [] (.bool true) := by
 refine zac (T := tt) (S := fun L => zao [yny L, zv1 L]) (lo := noA) (lb := noA) 5 (fn := Tryz.f86) rfl rfl (by kernel_rfl) (by kernel_rfl) rfl zab (za3 ⟨yi1, zqj, trivial⟩) (by kernel_rfl) ?_
 (intro L P1 Q1 hL hP hQ; cbv; subst hL; simp only [L2, L3, std, syT]; subst hQ)
 (simp only [syS, reduceCtorEq, Int.reduceToNat, Int.reduceAdd, Int.reduceSub])
 have e1 : yju [42, 46, 97, 46, 98] [120, 46, 121, 46, 97, 46, 98] = true := by decide +kernel
 have e2 : yju [42, 46, 97, 46, 98] [97, 46, 98] = false := by decide +kernel
 have e3 : zfj [119, 101, 98, 45, 49] = true := by decide +kernel
 rw [e1, e2, e3]
 exact ⟨⟨by decide, by decide⟩, fun _ => ⟨⟨by decide, by decide⟩, fun _ => rfl, by decide⟩, by decide⟩
def yuc (s t : List UInt8) : Bool := Lib.contains s t
def ynz (L : zaa) : zbg := (146, fun xs => match xs with | [.str s, .str t] => some (L2 L upto 1000000000 s, .bool (L2 L yuc s t)) | _ => none)
theorem yol (b : Bool) : ∀ (h : Array Obj) (D : Nat -> Prop), R h D zax (.bool b) (.bool b) := fun _ _ => .bool _
theorem yi3 : zaz Tryz.prog (ynz std) := by
 intro xs p r h hp
 dsimp only [ynz] at h |-
 split at h <;> cases h
 try simp only [L2, L3, std] at hp |-
 rename_i s t
 have hp : s.length <= 1000000000 := hp
 refine zh7 (fn := Tryz.f146) rfl rfl (by kernel_rfl) (zyq (zcy _) (zcy _)) (fun w hg => ?_)
 obtain ⟨m, hm⟩ := hg.2.2.2.2 0 (by kernel_rfl)
 refine (Tryz.strings_Contains ⟨s.toArray⟩ ⟨t.toArray⟩ m w (by show s.toArray.size < _; rw [List.size_toArray]; omega) hm).mono ?_
 rintro e w' ⟨rfl, rfl⟩
 exact ⟨_, rfl, Below.refl _ _, yol _⟩
def ysy (s : List UInt8) : Prop := ∃ j, j + 1 < s.length /\ za9 s j = 47 /\ za9 s (j + 1) = 47
theorem occ2 (s : List UInt8) (j : Nat) : Lib.occAt s [47, 47] j = true ↔ j + 1 < s.length /\ za9 s j = 47 /\ za9 s (j + 1) = 47 := by
 unfold Lib.occAt
 rw [List.isPrefixOf_iff_prefix]
 have hb : ∀ k, k < s.length -> (za9 s k = 47 ↔ s[k]? = some 47) := by
   intro k hk
   rw [zfq hk, List.getElem?_eq_getElem hk]
   constructor
   · intro h
     have : s[k] = 47 := UInt8.toNat_inj.1 (by show s[k].toNat = 47; omega)
     rw [this]
   · intro h
     rw [Option.some.inj h]; rfl
 constructor
 · rintro ⟨r, hr⟩
   have hl := congrArg List.length hr
   simp at hl
   have h0 : s[j]? = some 47 := by
     have := congrArg (fun l => l[0]?) hr
     simp [List.getElem?_drop] at this
     exact this.symm
   have h1 : s[j + 1]? = some 47 := by
     have := congrArg (fun l => l[1]?) hr
     simp [List.getElem?_drop] at this
     exact this.symm
   exact ⟨by omega, (hb j (by omega)).2 h0, (hb (j + 1) (by omega)).2 h1⟩
 · rintro ⟨h, h0, h1⟩
   have h0 := (hb j (by omega)).1 h0
   have h1 := (hb (j + 1) h).1 h1
   refine ⟨s.drop (j + 2), ?_⟩
   rw [List.drop_eq_getElem_cons (i := j) (by omega), List.drop_eq_getElem_cons (i := j + 1) h]
   rw [List.getElem?_eq_getElem (by omega)] at h0 h1
   rw [Option.some.inj h0, Option.some.inj h1]; rfl
theorem ydk {s : List UInt8} : yuc s [47, 47] = true ↔ ysy s := by
 unfold yuc Lib.contains
 rw [decide_eq_true_eq]
 rcases Lib.index_spec s [47, 47] with ⟨h1, h2⟩ | ⟨i, h1, h2, h3, h4⟩
 · rw [h1]
   refine ⟨fun h => absurd h (by decide), fun ⟨j, hj⟩ => ?_⟩
   have := h2 j (by omega)
   rw [(occ2 s j).2 hj] at this
   cases this
 · rw [h1]
   exact ⟨fun _ => ⟨i, (occ2 s i).1 h3⟩, fun _ => Int.natCast_nonneg _⟩
def yei (c : Int) : Bool := decide (33 <= c) && decide (c <= 126)
open Classical in
noncomputable def zqf (s : List UInt8) : Int := if zq9 s [47] = false \/ ysy s \/ zw7 yei s = false then 4 else if 128 < s.length then 5 else 0
noncomputable def yb6 (L : zaa) : zbg := (97, fun xs => match xs with | [.str s] => some (L2 L upto 1000000000 s, .int .i64 (L zqf s)) | _ => none)
def yvc (L : zaa) (s : List UInt8) : Nat -> St -> Option Ann := fun id st => match id with
 | 0 => some ⟨Nat, fun i => [(13, .int .i64 (L zav i))], fun i => [], [0, 12], [], fun i => L (L2 L zk8 yei s) i, fun i => L2 L toC s i⟩
 | _ => none
theorem yb7 : zaz Tryz.prog (yb6 std) := by
 intro xs p r h hp
 dsimp only [yb6] at h |-
 split at h <;> cases h
 try simp only [L2, L3, std] at hp |-
 rename_i s
 have hp : s.length <= 1000000000 := hp
 refine za2 (T := tt) (S := fun L => zao [yls L, ynz L]) (lo := fun L => yvc L s) (lb := noA) 5 (fn := Tryz.f97) (xs := fun L => [.str s]) rfl rfl (by kernel_rfl) (by kernel_rfl) rfl zab (za3 ⟨yfy, yi3, trivial⟩) (by kernel_rfl) ?_
 intro L P' Q' hL hP hQ
 (cbv; try simp only [syT, true_and, and_true])
 repeat' first | refine And.intro ?_ ?_ | refine fun (hh : (_ : Bool) = _) => ?_
 all_goals try (refine ⟨0, ?_⟩; (cbv; try simp only [syT, true_and, and_true]))
 all_goals try
   (intro i hi2
    have hi : zk8 yei s i := by
      have h := hi2
      rw [hL] at h
      exact h
    clear hi2
    (cbv; try simp only [syT, true_and, and_true])
    repeat' first | refine And.intro ?_ ?_ | refine fun (hh : (_ : Bool) = _) => ?_
    all_goals try (refine ⟨i + 1, ?_⟩; (cbv; try simp only [syT, true_and, and_true])))
 all_goals (subst hL; subst hQ; simp only [L2, L3, std] at *; try simp only [syS, reduceCtorEq, Int.reduceToNat, Int.reduceAdd, Int.reduceSub] at *)
 all_goals have hcd : yuc s [47, 47] = false -> ¬ ysy s := fun h h2 => by rw [ydk.2 h2] at h; cases h
 all_goals have hE : ∀ k, za9 s k = ((s.getD k 0).toNat : Int) := fun _ => rfl
 all_goals first
   | exact ⟨by omega, by decide⟩
   | exact (if_pos (.inl (by assumption))).symm
   | exact hp
   | exact (if_pos (.inr (.inl (ydk.1 (by assumption))))).symm
   | exact ztk _ _
   | exact ⟨by omega, by omega⟩
   | (refine (if_pos (.inr (.inr (zjt (i := i) (by omega) ?_)))).symm
      rw [yei, hE]
      first
        | (rw [decide_eq_false (by omega)]; rfl)
        | (rw [Bool.and_eq_false_iff]; exact .inr (decide_eq_false (by omega))))
   | (refine ⟨by omega, zjs hi (by omega) ?_, ?_⟩
      · rw [yei, hE, Bool.and_eq_true, decide_eq_true_eq, decide_eq_true_eq]; exact ⟨by omega, by omega⟩
      · show s.length - (i + 1) + 1 <= s.length - i
        omega)
   | (have ha := zfo hi (by omega)
      have hn : ¬ (zq9 s [47] = false \/ ysy s \/ zw7 yei s = false) := by
        have q1 : zq9 s [47] = true := by assumption
        have q2 := hcd (by assumption)
        rintro (q | q | q)
        · rw [q1] at q; cases q
        · exact q2 q
        · rw [ha] at q; cases q
      rw [zqf, if_neg hn]
      first
        | exact (if_pos (show 128 < s.length by omega)).symm
        | exact (if_neg (show ¬ 128 < s.length by omega)).symm)
end Sy
end Go.Proofs.YthppjaoicibeiaaGreatDoor
namespace Go.Proofs.YthppjaoicibeiaaGreatDoor
namespace Sy
open Go Go.RowKit
set_option maxRecDepth 100000
set_option linter.unusedSimpArgs false
set_option linter.unusedVariables false
def okR (s : List UInt8) (k : Nat) : Prop := (33 <= za9 s k /\ za9 s k <= 126) /\ ¬ (0 < k /\ za9 s k = 47 /\ za9 s (k - 1) = 47)
def yho (s : List UInt8) (i : Nat) : Prop := i <= s.length /\ ∀ k, k < i -> okR s k
theorem pre1 {s : List UInt8} : zq9 s [47] = true ↔ 0 < s.length /\ za9 s 0 = 47 := by
 cases s with
 | nil => exact ⟨fun h => (by cases h), fun h => absurd h.1 (by decide)⟩
 | cons b r =>
   have e : zq9 (b :: r) [47] = (b == 47) := by simp [zq9]
   have f : za9 (b :: r) 0 = (b.toNat : Int) := rfl
   rw [e, f, beq_iff_eq]
   refine ⟨fun h => ⟨by simp, by rw [h]; rfl⟩, fun h => UInt8.toNat_inj.1 (by show b.toNat = 47; omega)⟩
theorem zom {s : List UInt8} (h : zq9 s [47] = false \/ ysy s \/ zw7 yei s = false) : zqf s = 4 := if_pos h
theorem yv6 {s : List UInt8} {i : Nat} (hi : i < s.length) (h : ¬ okR s i) : zqf s = 4 := by
 unfold okR at h
 by_cases h1 : 33 <= za9 s i /\ za9 s i <= 126
 · have h2 : 0 < i /\ za9 s i = 47 /\ za9 s (i - 1) = 47 := Classical.byContradiction fun q => h ⟨h1, q⟩
   refine zom (.inr (.inl ⟨i - 1, by omega, h2.2.2, ?_⟩))
   rw [show i - 1 + 1 = i by omega]
   exact h2.2.1
 · refine zom (.inr (.inr (zjt hi ?_)))
   unfold yei
   rw [Bool.and_eq_false_iff, decide_eq_false_iff_not, decide_eq_false_iff_not]
   omega
theorem yqh {s : List UInt8} {i : Nat} (h0 : 0 < s.length) (h1 : za9 s 0 = 47) (h : yho s i) (hi : s.length <= i) : zqf s = if 128 < s.length then 5 else 0 := by
 have hi' : i = s.length := Nat.le_antisymm h.1 hi
 subst hi'
 have ha : zw7 yei s = true := zfo (i := s.length) ⟨Nat.le_refl _, fun k hk => by
   have := (h.2 k hk).1
   unfold yei
   rw [Bool.and_eq_true, decide_eq_true_eq, decide_eq_true_eq]
   exact this⟩ (Nat.le_refl _)
 refine if_neg ?_
 rintro (q | ⟨j, q1, q2, q3⟩ | q)
 · rw [pre1.2 ⟨h0, h1⟩] at q; cases q
 · exact (h.2 (j + 1) q1).2 ⟨by omega, q3, q2⟩
 · rw [ha] at q; cases q
theorem yld {s : List UInt8} {i : Nat} (h : yho s i) (hi : i < s.length) (hf : okR s i) : yho s (i + 1) :=
 ⟨hi, fun k hk => by
   rcases Nat.lt_succ_iff_lt_or_eq.1 hk with h1 | h1
   · exact h.2 k h1
   · rw [h1]; exact hf⟩
theorem pj {i : Nat} (h : 0 < i) (h1 : (i : Int) <= 1000000000) : ((i : Int) - 1 + 9223372036854775808) % 18446744073709551616 - 9223372036854775808 = ((i - 1 : Nat) : Int) := by omega
noncomputable def zsa (L : zaa) : zbg := (105, fun xs => match xs with | [.str s] => some (L2 L upto 1000000000 s, .int .i64 (L zqf s)) | _ => none)
def yqf (L : zaa) (s : List UInt8) : Nat -> St -> Option Ann := fun id st => match id with
 | 0 => some ⟨Nat, fun i => [(3, .int .i64 (L zav i))], fun i => [], [0], [], fun i => L2 L yho s i, fun i => L2 L toC s i⟩
 | _ => none
theorem zwy : zaz Tryz.prog (zsa std) := by
 intro xs p r h hp
 dsimp only [zsa] at h |-
 split at h <;> cases h
 try simp only [L2, L3, std] at hp |-
 rename_i s
 have hp : s.length <= 1000000000 := hp
 refine za2 (T := tt) (S := noS) (lo := fun L => yqf L s) (lb := noA) 5 (fn := Tryz.f105) (xs := fun L => [.str s]) rfl rfl (by kernel_rfl) (by kernel_rfl) rfl zab (zbh _) (by kernel_rfl) ?_
 intro L P' Q' hL hP hQ
 (cbv; try simp only [syT, true_and, and_true])
 repeat' first | refine And.intro ?_ ?_ | refine fun (hh : (_ : Bool) = _) => ?_
 all_goals try (refine ⟨0, ?_⟩; (cbv; try simp only [syT, true_and, and_true]))
 all_goals try
   (intro i hi
    cbv at hi
    (cbv; try simp only [syT, true_and, and_true])
    repeat' first | refine And.intro ?_ ?_ | refine fun (hh : (_ : Bool) = _) => ?_
    all_goals try (refine ⟨i + 1, ?_⟩; (cbv; try simp only [syT, true_and, and_true])))
 all_goals (subst hL; subst hQ; simp only [L2, L3, std] at *; try simp only [syS, reduceCtorEq, Int.reduceToNat, Int.reduceAdd, Int.reduceSub] at *)
 all_goals have hE : ∀ k, za9 s k = ((s.getD k 0).toNat : Int) := fun _ => rfl
 all_goals try
   (have g0 : ¬ ((s.length : Nat) : Int) = 0 := by assumption
    have g1 : ((s.getD 0 0).toNat : Int) = 47 := by assumption)
 all_goals try
   (have g2 : 0 < (i : Int) := by assumption
    have g3 : (i : Int) < s.length := by assumption
    have g4 := pj (i := i) (by omega) (by omega)
    simp only [g4, Int.toNat_natCast] at *)
 all_goals first
   | (refine (zom (.inl ?_)).symm
      cases hq : zq9 s [47] with
      | false => rfl
      | true =>
        have q := pre1.1 hq
        rw [hE] at q
        omega)
   | exact ⟨Nat.zero_le _, fun k hk => by omega⟩
   | exact ⟨by omega, by omega⟩
   | (refine (yv6 (i := i) (by omega) ?_).symm
      unfold okR
      simp only [hE]
      omega)
   | (refine ⟨by omega, yld hi (by omega) ?_, ?_⟩
      · unfold okR
        simp only [hE]
        omega
      · show s.length - (i + 1) + 1 <= s.length - i
        omega)
   | (rw [yqh (by omega) (by rw [hE]; exact g1) hi (by omega)]
      first
        | exact (if_pos (show 128 < s.length by omega)).symm
        | exact (if_neg (show ¬ 128 < s.length by omega)).symm)
end Sy
end Go.Proofs.YthppjaoicibeiaaGreatDoor
namespace Go.Proofs.YthppjaoicibeiaaGreatDoor
namespace Sy
open Go Go.RowKit
set_option linter.unusedVariables false
def DW (W : World) : Nat -> Prop := fun b => b < W.heap.size
structure zek {H : Type} (enc : TypeId × Value -> H) (P : Program) (W : World) (t : TypeId) (α : Type) (sz : Nat) (av : α -> Nat -> AV) (ok : α -> Prop) : Prop where
 size : P.cellsOf t = sz
 go : ∀ fuel cs x, DataW.trod enc P W 0 (fun _ => true) true fuel t cs = some x -> ∃ y : α, ok y /\ cs.length = sz /\ ∀ j, j < sz -> ∃ v, cs[j]? = some v /\ one v /\ R W.heap (DW W) zax (av y j) v
structure zw8 {H : Type} (enc : TypeId × Value -> H) (P : Program) (W : World) (fs : List Field) (off : Nat) (α : Type) (sz : Nat) (av : α -> Nat -> AV) (ok : α -> Prop) : Prop where
 go : ∀ fuel (cs : List Value) (xs : List (DataW H × List MemPlace)), (∀ (i : Nat) (f : Field), fs[i]? = some f -> ∃ x, DataW.trod enc P W 0 (fun _ => true) true fuel f.type ((cs.drop f.offset).take (P.cellsOf f.type)) = some x) -> ∃ y : α, ok y /\ ∀ j, j < sz -> ∃ v, cs[off + j]? = some v /\ one v /\ R W.heap (DW W) zax (av y j) v
theorem sgl {h : Array Obj} {D : Nat -> Prop} {f : Nat -> AV} {v : Value} (h1 : one v) (h2 : R h D zax (f 0) v) : ∀ j, j < 1 -> ∃ u, [v][j]? = some u /\ one u /\ R h D zax (f j) u := by
 intro j hj
 obtain rfl : j = 0 := by omega
 exact ⟨v, rfl, h1, h2⟩
theorem zt2 {α : Type} (p : Nat -> α -> Prop) : ∀ n, (∀ i, i < n -> ∃ y, p i y) -> ∃ l : List α, l.length = n /\ ∀ i, i < n -> ∃ y, l[i]? = some y /\ p i y
 | 0, _ => ⟨[], rfl, fun i hi => by omega⟩
 | m + 1, h => by
   obtain ⟨l, e1, e2⟩ := zt2 p m (fun i hi => h i (by omega))
   obtain ⟨y, hy⟩ := h m (by omega)
   refine ⟨l ++ [y], by simp [e1], fun i hi => ?_⟩
   by_cases hi' : i < m
   · obtain ⟨z, z1, z2⟩ := e2 i hi'
     exact ⟨z, by rw [List.getElem?_append_left (by omega)]; exact z1, z2⟩
   · have : i = m := by omega
     subst this
     exact ⟨y, by rw [<- e1]; simp, hy⟩
section
variable {H : Type} {enc : TypeId × Value -> H} {P : Program} {W : World}
theorem zgt {t : TypeId} {k : IntKind} (ht : P.underlying t = some (.int k)) (hc : P.cellsOf t = 1) : zek enc P W t Int 1 (fun n _ => .int k n) (fun n => (Lit.int k n).wf = true) := by
 refine ⟨hc, fun fuel cs x h => ?_⟩
 obtain ⟨n, rfl, rfl, hw⟩ := DataW.trod_int ht h
 exact ⟨n, hw, rfl, sgl rfl (.int k n)⟩
theorem zgs {t : TypeId} (ht : P.underlying t = some .string) (hc : P.cellsOf t = 1) : zek enc P W t (List UInt8) 1 (fun l _ => .str l) (fun l => l.length <= maxLen) := by
 refine ⟨hc, fun fuel cs x h => ?_⟩
 obtain ⟨s, rfl, rfl, hs⟩ := DataW.trod_string ht h
 exact ⟨s.data.toList, by rw [Array.length_toList]; exact hs, rfl, sgl rfl (.str _ _ rfl)⟩
def avL {α : Type} (av : α -> Nat -> AV) (l : List α) (i j : Nat) : AV := match l[i]? with | some y => av y j | none => .dead
theorem zss {t e : TypeId} {α : Type} {sz : Nat} {av : α -> Nat -> AV} {ok : α -> Prop} (ht : P.underlying t = some (.slice e)) (hc : P.cellsOf t = 1) (he : zek enc P W e α sz av ok) (hs : 0 < sz) :
   zek enc P W t (List α) 1 (fun l _ => .lst sz l.length (avL av l)) (fun l => l.length <= maxLen /\ ∀ y ∈ l, ok y) := by
 refine ⟨hc, fun fuel cs x h => ?_⟩
 rcases DataW.trod_slice ht h with ⟨rfl, rfl⟩ | ⟨a, len, cap, elems, rest, n, _, rfl, rfl, hb, hl, hm, hlen, hel, _, _⟩
 · exact ⟨[], ⟨Nat.zero_le _, fun y hy => by cases hy⟩, rfl, sgl rfl (.lst0 _ _ _ _ (fun _ => rfl))⟩
 · have each : ∀ i, i < len -> ∃ y : α, ok y /\ ∀ j, j < sz -> ∃ v, W.cell? ((a.add (i * sz)).add j) = some v /\ one v /\ R W.heap (DW W) zax (av y j) v := by
     intro i hi
     have h1 := hel i hi
     rw [he.size] at h1
     obtain ⟨z, hz⟩ : ∃ z, elems[i]? = some z := ⟨elems[i], by simp [hlen, hi]⟩
     rw [hz, Option.bind_eq_some_iff] at h1
     obtain ⟨cs', h2, h3⟩ := h1
     obtain ⟨y, y1, y2, y3⟩ := he.go _ _ _ h3
     refine ⟨y, y1, fun j hj => ?_⟩
     obtain ⟨v, v1, v2, v3⟩ := y3 j hj
     exact ⟨v, by rw [(World.cells?_some h2).2.2 j hj]; exact v1, v2, v3⟩
   obtain ⟨l, hl1, hl2⟩ : ∃ l : List α, l.length = len /\ ∀ i, i < len -> ∃ y, l[i]? = some y /\ ok y /\ ∀ j, j < sz -> ∃ v, W.cell? ((a.add (i * sz)).add j) = some v /\ one v /\ R W.heap (DW W) zax (av y j) v :=
     zt2 (fun i y => ok y /\ ∀ j, j < sz -> ∃ v, W.cell? ((a.add (i * sz)).add j) = some v /\ one v /\ R W.heap (DW W) zax (av y j) v) len each
   refine ⟨l, ⟨by omega, fun y hy => ?_⟩, rfl, sgl rfl ?_⟩
   · obtain ⟨i, hi, rfl⟩ := List.getElem_of_mem hy
     obtain ⟨z, z1, z2, _⟩ := hl2 i (by omega)
     rw [List.getElem?_eq_getElem hi] at z1
     cases z1; exact z2
   · show R W.heap (DW W) zax (.lst sz l.length (avL av l)) _
     by_cases h0 : len = 0
     · subst h0; rw [hl1]; exact .lst0 _ _ _ _ (fun h => by cases h)
     · have cell : ∀ i j, i < len -> j < sz -> ∃ v, hcell W.heap a.block (a.off + i * sz + j) = some v /\ one v /\ R W.heap (DW W) zax (avL av l i j) v := by
         intro i j hi hj
         obtain ⟨y, y1, _, y3⟩ := hl2 i hi
         obtain ⟨v, v1, v2, v3⟩ := y3 j hj
         refine ⟨v, ?_, v2, by rw [avL, y1]; exact v3⟩
         rw [<- zm7]
         have hsp : ∀ p : Addr, W.cell? p = some v -> p.spot = none := by
           intro p hp
           unfold World.cell? at hp
           split at hp
           · split at hp
             · cases hp
             · rename_i hn; simpa using hn
           · cases hp
         have h1 := hsp _ v1
         have e : (a.add (i * sz)).add j = ⟨a.block, a.off + i * sz + j, none⟩ := by
           have hb1 : ((a.add (i * sz)).add j).block = a.block := by simp only [Addr.add]; split <;> split <;> rfl
           have hb2 : ((a.add (i * sz)).add j).off = a.off + i * sz + j := by simp only [Addr.add]; split <;> split <;> simp_all
           cases hq : (a.add (i * sz)).add j with
           | mk b o s => rw [hq] at h1 hb1 hb2; simp_all
         rw [<- e]; exact v1
       have hsp0 : a.spot = none := by
         obtain ⟨y, _, _, y3⟩ := hl2 0 (by omega)
         obtain ⟨v, v1, _⟩ := y3 0 hs
         rw [Nat.zero_mul] at v1
         simp only [Addr.add, if_true] at v1
         unfold World.cell? at v1
         split at v1
         · split at v1
           · cases v1
           · rename_i hn; simpa using hn
         · cases v1
       have hD : DW W a.block := by
         obtain ⟨v, v1, _⟩ := cell 0 0 (by omega) hs
         refine Classical.byContradiction fun hn => ?_
         unfold hcell at v1
         rw [Array.getElem?_eq_none (by unfold DW at hn; omega)] at v1
         cases v1
       have ea : a = ⟨a.block, a.off, none⟩ := by cases a; simp_all
       rw [ea, <- hl1]
       refine .lst sz l.length (avL av l) a.block a.off cap (fun i j => (hcell W.heap a.block (a.off + i * sz + j)).getD undef) hD (by omega) (fun i j hi hj => ?_) (fun i j hi hj => ?_) (fun i j hi hj => ?_)
       all_goals
         obtain ⟨v, v1, v2, v3⟩ := cell i j (by omega) hj
         rw [v1]
         first | rfl | exact v2 | exact v3
theorem ybc {t e : TypeId} {α : Type} {sz n : Nat} {av : α -> Nat -> AV} {ok : α -> Prop} (ht : P.underlying t = some (.array n e)) (hc : P.cellsOf t = n * sz) (he : zek enc P W e α sz av ok) (hs : 0 < sz) :
   zek enc P W t (List α) (n * sz) (fun l j => avL av l (j / sz) (j % sz)) (fun l => l.length = n /\ ∀ y ∈ l, ok y) := by
 refine ⟨hc, fun fuel cs x h => ?_⟩
 obtain ⟨xs, m, _, rfl, hl, hx, hel⟩ := DataW.trod_array ht h
 obtain ⟨l, hl1, hl2⟩ : ∃ l : List α, l.length = n /\ ∀ i, i < n -> ∃ y, l[i]? = some y /\ ok y /\ ∀ j, j < sz -> ∃ v, cs[i * sz + j]? = some v /\ one v /\ R W.heap (DW W) zax (av y j) v :=
   zt2 (fun i y => ok y /\ ∀ j, j < sz -> ∃ v, cs[i * sz + j]? = some v /\ one v /\ R W.heap (DW W) zax (av y j) v) n (fun i hi => by
     have h1 := hel i hi
     rw [he.size, List.getElem?_eq_getElem (by omega)] at h1
     obtain ⟨y, y1, y2, y3⟩ := he.go _ _ _ h1
     refine ⟨y, y1, fun j hj => ?_⟩
     obtain ⟨v, v1, v2⟩ := y3 j hj
     rw [List.getElem?_take, if_pos hj, List.getElem?_drop] at v1
     exact ⟨v, v1, v2⟩)
 refine ⟨l, ⟨hl1, fun y hy => ?_⟩, by rw [hl, hc], fun j hj => ?_⟩
 · obtain ⟨i, hi, rfl⟩ := List.getElem_of_mem hy
   obtain ⟨z, z1, z2, _⟩ := hl2 i (by omega)
   rw [List.getElem?_eq_getElem hi] at z1
   cases z1; exact z2
 · have hi : j / sz < n := Nat.div_lt_of_lt_mul (by rw [Nat.mul_comm]; exact hj)
   obtain ⟨z, z1, _, z3⟩ := hl2 (j / sz) hi
   obtain ⟨v, v1, v2⟩ := z3 (j % sz) (Nat.mod_lt _ hs)
   rw [show j / sz * sz + j % sz = j by rw [Nat.mul_comm]; exact Nat.div_add_mod j sz] at v1
   exact ⟨v, v1, by unfold avL; rw [z1]; exact v2⟩
theorem ze2 (off : Nat) : zw8 enc P W [] off Unit 0 (fun _ _ => .dead) (fun _ => True) := ⟨fun _ _ _ _ => ⟨(), trivial, fun j hj => by omega⟩⟩
theorem zaw {f : Field} {fs : List Field} {off : Nat} {α β : Type} {sz sz' : Nat} {av : α -> Nat -> AV} {av' : β -> Nat -> AV} {ok : α -> Prop} {ok' : β -> Prop} (ho : f.offset = off) (hf : zek enc P W f.type α sz av ok) (hr : zw8 enc P W fs (off + sz) β sz' av' ok') :
   zw8 enc P W (f :: fs) off (α × β) (sz + sz') (fun y j => if j < sz then av y.1 j else av' y.2 (j - sz)) (fun y => ok y.1 /\ ok' y.2) := by
 refine ⟨fun fuel cs xs h => ?_⟩
 obtain ⟨x, hx⟩ := h 0 f rfl
 obtain ⟨y, y1, y2, y3⟩ := hf.go _ _ _ hx
 obtain ⟨z, z1, z2⟩ := hr.go fuel cs xs (fun i g hg => h (i + 1) g hg)
 refine ⟨(y, z), ⟨y1, z1⟩, fun j hj => ?_⟩
 by_cases hlt : j < sz
 · obtain ⟨v, v1, v2, v3⟩ := y3 j hlt
   refine ⟨v, ?_, v2, by simp only [if_pos hlt]; exact v3⟩
   rw [hf.size, List.getElem?_take, if_pos hlt, List.getElem?_drop, ho] at v1
   exact v1
 · obtain ⟨v, v1, v2, v3⟩ := z2 (j - sz) (by omega)
   refine ⟨v, ?_, v2, by simp only [if_neg hlt]; exact v3⟩
   rw [<- v1]; congr 1; omega
theorem zcq {t : TypeId} {fs : Array Field} {α : Type} {sz : Nat} {av : α -> Nat -> AV} {ok : α -> Prop} (ht : P.underlying t = some (.struct fs)) (hc : P.cellsOf t = sz) (hf : zw8 enc P W fs.toList 0 α sz av ok) : zek enc P W t α sz av ok := by
 refine ⟨hc, fun fuel cs x h => ?_⟩
 obtain ⟨xs, n, rfl, rfl, hl, hx, hfs⟩ := DataW.trod_struct ht h
 obtain ⟨y, y1, y2⟩ := hf.go n cs xs (fun i f hi => by
   have := hfs i f (by simpa using hi)
   have hlt : i < xs.length := by rw [hx]; simpa using (List.getElem?_eq_some_iff.1 hi).1
   exact ⟨xs[i], by rw [this]; simp [hlt]⟩)
 exact ⟨y, y1, by omega, fun j hj => by obtain ⟨v, v1, v2⟩ := y2 j hj; exact ⟨v, by simpa using v1, v2⟩⟩
theorem zek.map {t : TypeId} {α β : Type} {sz : Nat} {av : α -> Nat -> AV} {av' : β -> Nat -> AV} {ok : α -> Prop} {ok' : β -> Prop} (O : zek enc P W t α sz av ok) (f : α -> β) (h1 : ∀ y j, j < sz -> av y j = av' (f y) j) (h2 : ∀ y, ok y -> ok' (f y)) : zek enc P W t β sz av' ok' := by
 refine ⟨O.size, fun fuel cs x h => ?_⟩
 obtain ⟨y, y1, y2, y3⟩ := O.go fuel cs x h
 refine ⟨f y, h2 y y1, y2, fun j hj => ?_⟩
 obtain ⟨v, v1, v2, v3⟩ := y3 j hj
 exact ⟨v, v1, v2, by rw [<- h1 y j hj]; exact v3⟩
theorem open_agg {t : TypeId} {α : Type} {sz : Nat} {av : α -> Nat -> AV} {ok : α -> Prop} {cs : Array Value} {d : DataW H} {p : List MemPlace} (O : zek enc P W t α sz av ok) (h : DataW.Trod enc P W 0 (fun _ => true) true t (.agg cs) d p) :
   ∃ y, ok y /\ R W.heap (DW W) zax (.agg ((List.range sz).map (av y))) (.agg cs) := by
 obtain ⟨fuel, h⟩ := h
 obtain ⟨y, y1, y2, y3⟩ := O.go _ _ _ h
 refine ⟨y, y1, .agg _ _ (by simpa [Value.cells] using y2.symm) (fun i v hv => ?_) (fun i x v hx hv => ?_)⟩
 · have hi : i < sz := by
     have := (Array.getElem?_eq_some_iff.1 hv).1
     simp [Value.cells] at y2; omega
   obtain ⟨u, u1, u2, u3⟩ := y3 i hi
   simp [Value.cells] at u1
   rw [u1] at hv; cases hv; exact u2
 · have hi : i < sz := by
     have := (List.getElem?_eq_some_iff.1 hx).1
     simpa using this
   obtain ⟨u, u1, u2, u3⟩ := y3 i hi
   simp [Value.cells] at u1
   rw [u1] at hv; cases hv
   simp [hi] at hx
   subst hx; exact u3
end
theorem yeb {P : Program} {f : FuncId} {xs ys : List AV} {r : AV} (h : ∀ h D vs, RL h D zax xs vs -> RL h D zax ys vs) (ha : za7 P f ys r) : za7 P f xs r := fun D w vs hD hx => ha D w vs hD (h _ _ _ hx)
end Sy
end Go.Proofs.YthppjaoicibeiaaGreatDoor
namespace Go.Proofs.YthppjaoicibeiaaGreatDoor
namespace Sy
open Go Go.RowKit
set_option maxRecDepth 100000
set_option linter.unusedSimpArgs false
set_option linter.unusedVariables false
structure Vw (α : Type) where
 sz : Nat
 cell : zaa -> α -> Nat -> AV
 rd : (Nat -> AV) -> α
 ok : (Nat -> AV) -> Prop
 d : α
structure znu {α : Type} (V : Vw α) : Prop where
 turn : ∀ c, V.ok c -> ∀ j, j < V.sz -> ∀ (h : Array Obj) (D : Nat -> Prop) (μ : Mu) (v : Value), R h D μ (c j) v -> R h D μ (V.cell std (V.rd c) j) v
 back : ∀ c x, (∀ j, j < V.sz -> c j = V.cell std x j) -> V.ok c /\ V.rd c = x
def zlg {α : Type} (V : Vw α) (l : List α) (i : Nat) : α := l.getD i V.d
def zad {α : Type} (l : List α) : Nat := l.length
def ywb {α : Type} (L : zaa) (V : Vw α) (l : List α) : Nat -> Nat -> AV := fun i j => V.cell L (L (L (zlg V) l) i) j
def zvb {α : Type} (L : zaa) (V : Vw α) (l : List α) : AV := .lst V.sz (L zad l) (ywb L V l)
def rdW {α : Type} (V : Vw α) : AV -> List α
 | .lst _ n get => (List.range n).map fun i => V.rd (get i)
 | _ => []
def okW {α : Type} (V : Vw α) : AV -> Prop
 | .lst sz n get => sz = V.sz /\ ∀ i, i < n -> V.ok (get i)
 | .nils => True
 | _ => False
theorem zak {α : Type} {V : Vw α} {l : List α} {i : Nat} (h : i < l.length) : zlg V l i = l[i] := by
 rw [zlg, List.getD_eq_getElem?_getD, List.getElem?_eq_getElem h]; rfl
theorem zje {α : Type} (V : Vw α) (sz n : Nat) (get : Nat -> Nat -> AV) : (rdW V (.lst sz n get)).length = n := by simp [rdW]
theorem yaw {α : Type} {V : Vw α} {sz n : Nat} {get : Nat -> Nat -> AV} {i : Nat} (h : i < n) : zlg V (rdW V (.lst sz n get)) i = V.rd (get i) := by
 rw [zak (by rw [zje]; exact h)]
 simp [rdW]
theorem zop {α : Type} {V : Vw α} (K : znu V) {h : Array Obj} {D : Nat -> Prop} {μ : Mu} {x : AV} {v : Value} (ho : okW V x) (r : R h D μ x v) : R h D μ (zvb std V (rdW V x)) v := by
 match x, ho with
 | .nils, _ => cases r; exact .lst0 _ _ none 0 (fun _ => rfl)
 | .lst sz n get, ho =>
   obtain ⟨rfl, ho⟩ := ho
   have e : zvb std V (rdW V (.lst V.sz n get)) = .lst V.sz n (ywb std V (rdW V (.lst V.sz n get))) := by
     show AV.lst V.sz (zad (rdW V (.lst V.sz n get))) _ = _
     rw [show zad (rdW V (.lst V.sz n get)) = n from zje _ _ _ _]
   rw [e]
   cases r with
   | lst0 _ _ a cap hn => exact .lst0 _ _ a cap hn
   | lst _ _ _ b o cap vs hD hc hv h1 hr =>
     refine .lst _ _ _ b o cap vs hD hc hv h1 (fun i j hi hj => ?_)
     show R h D zax (V.cell std (zlg V (rdW V (.lst V.sz n get)) i) j) (vs i j)
     rw [yaw hi]
     exact K.turn _ (ho i hi) j hj _ _ _ _ (hr i j hi hj)
theorem yfs {α : Type} {V : Vw α} (K : znu V) {n : Nat} {get : Nat -> Nat -> AV} {l : List α} (hn : n = l.length) (h : ∀ i j, i < n -> j < V.sz -> get i j = V.cell std (zlg V l i) j) : okW V (.lst V.sz n get) /\ rdW V (.lst V.sz n get) = l := by
 subst hn
 refine ⟨⟨rfl, fun i hi => (K.back _ _ (fun j hj => h i j hi hj)).1⟩, ?_⟩
 apply List.ext_getElem
 · rw [zje]
 · intro i h1 h2
   have := yaw (V := V) (sz := V.sz) (get := get) h2
   rw [zak h1] at this
   rw [this, (K.back _ _ (fun j hj => h i j h2 hj)).2, zak h2]
theorem zd1 {α : Type} {V : Vw α} (K : znu V) (l : List α) : okW V (zvb std V l) /\ rdW V (zvb std V l) = l := yfs K rfl (fun i j hi hj => rfl)
theorem zka {α : Type} {V : Vw α} (K : znu V) {P : Program} {f : FuncId} {x r : AV} {xs : List AV} (ho : okW V x) (h : za7 P f (zvb std V (rdW V x) :: xs) r) : za7 P f (x :: xs) r :=
 yeb (fun hp D vs hr => by
   refine ⟨by rw [<- hr.1]; rfl, fun i z v hz hv => ?_⟩
   cases i with
   | zero => cases hz; exact zop K ho (hr.2 0 x v rfl hv)
   | succ i => exact hr.2 (i + 1) z v hz hv) h
theorem yor {α : Type} {V : Vw α} (K : znu V) {P : Program} {f : FuncId} {y x r : AV} {xs : List AV} (ho : okW V x) (h : za7 P f (y :: zvb std V (rdW V x) :: xs) r) : za7 P f (y :: x :: xs) r :=
 yeb (fun hp D vs hr => by
   refine ⟨by rw [<- hr.1]; rfl, fun i z v hz hv => ?_⟩
   match i, hz with
   | 0, hz => exact hr.2 0 z v hz hv
   | 1, hz => cases hz; exact zop K ho (hr.2 1 x v rfl hv)
   | i + 2, hz => exact hr.2 (i + 2) z v hz hv) h
def zxa (x : AV) : List UInt8 := match x with | .str s => s | _ => []
def isS (x : AV) : Prop := ∃ s, x = .str s
def isI (k : IntKind) (x : AV) : Prop := ∃ n, x = .int k n
theorem zxv {x : AV} (h : isS x) {hp : Array Obj} {D : Nat -> Prop} {μ : Mu} {v : Value} (r : R hp D μ x v) : R hp D μ (.str (zxa x)) v := by obtain ⟨s, rfl⟩ := h; exact r
theorem zp5 {k : IntKind} {x : AV} (h : isI k x) {hp : Array Obj} {D : Nat -> Prop} {μ : Mu} {v : Value} (r : R hp D μ x v) : R hp D μ (.int k x.toI) v := by obtain ⟨s, rfl⟩ := h; exact r
def zmh {α : Type} (p : α -> Bool) : List α -> Int
 | [] => -1
 | x :: l => if p x = true then 0 else if zmh p l < 0 then -1 else zmh p l + 1
theorem zg5 {α : Type} (p : α -> Bool) : ∀ l : List α, decide (0 <= zmh p l) = l.any p
 | [] => by simp [zmh]
 | x :: l => by
   have ih := zg5 p l
   unfold zmh
   by_cases h : p x = true
   · simp [h]
   · have h' : p x = false := by simpa using h
     rw [if_neg h, List.any_cons, h', Bool.false_or, <- ih]
     split
     · rename_i h2; rw [decide_eq_false (by omega), decide_eq_false (by omega)]
     · rename_i h2; rw [decide_eq_true (by omega), decide_eq_true (by omega)]
theorem yci {α : Type} {p : α -> Bool} : ∀ {l : List α} {i : Nat} (hi : i < l.length), (∀ k (hk : k < i), p (l[k]'(by omega)) = false) -> p l[i] = true -> zmh p l = i
 | [], i, hi, _, _ => by simp at hi
 | x :: l, 0, hi, _, h => by simp at h; simp [zmh, h]
 | x :: l, i + 1, hi, h0, h => by
   have hx : p x = false := by simpa using h0 0 (by omega)
   have ih := yci (p := p) (l := l) (i := i) (by simpa using hi) (fun k hk => by have := h0 (k + 1) (by omega); simpa using this) (by simpa using h)
   rw [zmh, if_neg (by rw [hx]; decide), if_neg (by omega), ih]; simp
theorem ych {α : Type} {p : α -> Bool} : ∀ {l : List α}, (∀ x ∈ l, p x = false) -> zmh p l = -1
 | [], _ => rfl
 | x :: l, h => by
   have hx := h x (by simp)
   have ih := ych (p := p) (l := l) (fun y hy => h y (by simp [hy]))
   rw [zmh, if_neg (by rw [hx]; decide), if_pos (by omega)]
def zli {α : Type} (p : α -> Bool) (l : List α) (i : Nat) : Prop := i <= l.length /\ ∀ x ∈ l.take i, p x = false
theorem zjk {α : Type} (p : α -> Bool) (l : List α) : zli p l 0 := ⟨Nat.zero_le _, fun x hx => by simp at hx⟩
theorem ze3 {α : Type} {V : Vw α} {p : α -> Bool} {l : List α} {i : Nat} (h : zli p l i) (hi : i < l.length) (hp : p (zlg V l i) = false) : zli p l (i + 1) := by
 refine ⟨hi, fun x hx => ?_⟩
 rw [List.take_succ_eq_append_getElem hi, List.mem_append] at hx
 rcases hx with hx | hx
 · exact h.2 x hx
 · rw [List.mem_singleton.1 hx, <- zak (V := V) hi]; exact hp
theorem zfg {α : Type} {V : Vw α} {p : α -> Bool} {l : List α} {i : Nat} (h : zli p l i) (hi : i < l.length) (hp : p (zlg V l i) = true) : zmh p l = i := by
 rw [zak hi] at hp
 refine yci hi (fun k hk => h.2 _ ?_) hp
 rw [List.mem_take_iff_getElem]
 exact ⟨k, by omega, rfl⟩
theorem zfh {α : Type} {p : α -> Bool} {l : List α} {i : Nat} (h : zli p l i) (hi : ¬ i < l.length) : zmh p l = -1 := by
 have := h.2
 rw [List.take_of_length_le (by omega)] at this
 exact ych this
theorem zhb {c : UInt8} : ∀ {u : List UInt8} {v : List UInt8}, (∀ x ∈ u, x ≠ c) -> zb4 c (u ++ c :: v) = u :: zb4 c v
 | [], v, _ => by simp [zb4]
 | x :: u, v, h => by
   have ih := zhb (u := u) (v := v) (fun y hy => h y (by simp [hy]))
   rw [List.cons_append, zb4, if_neg (h x (by simp)), ih]
theorem zwb {c : UInt8} {u : List UInt8} (h : ∀ x ∈ u, x ≠ c) : zb4 c u = [u] := zf9 fun k hk => h c (List.mem_of_getElem? hk) rfl
theorem ys5 {s : List UInt8} {c : UInt8} {m : Nat} (h0 : ∀ k, k < m -> s[k]? ≠ some c) (h : s[m]? = some c) : Lib.indexByte s c = m := by
 by_cases hn : Lib.indexByte s c < 0
 · exact absurd h (ycg hn m)
 · obtain ⟨h1, h2, h3⟩ := zqs hn
   rcases Nat.lt_trichotomy (Lib.indexByte s c).toNat m with hlt | heq | hgt
   · exact absurd h1 (h0 _ hlt)
   · omega
   · exact absurd h (h2 _ hgt)
theorem yn1 {u v : List UInt8} {c : UInt8} (h : ∀ x ∈ u, x ≠ c) : Lib.indexByte (u ++ c :: v) c = u.length := by
 refine ys5 (fun k hk => ?_) (by simp)
 rw [List.getElem?_append_left hk]
 intro e
 exact h c (List.mem_of_getElem? e) rfl
theorem ynv {u v : List UInt8} (h : ∀ x ∈ u, x ≠ 58) : yhz (u ++ 58 :: v) [58] = u /\ ydi (u ++ 58 :: v) [58] = v /\ yt0 (u ++ 58 :: v) [58] = true := by
 have e : zjo (u ++ 58 :: v) [58] = u.length := yn1 h
 rw [yhz, ydi, yt0, e, if_neg (by omega), if_neg (by omega)]
 refine ⟨by simp, by simp, by simp⟩
theorem ys1 {u : List UInt8} (h : u.all isD = true) (c : UInt8) (hc : isD c = false) : ∀ x ∈ u, x ≠ c := by
 intro x hx e
 subst e
 rw [List.all_eq_true.1 h x hx] at hc
 cases hc
theorem zk1 {n : Int} (c : UInt8) (hc : isD c = false) : ∀ x ∈ zcu n, x ≠ c := ys1 (yjs n.toNat).1 c hc
def zqw (x : Pl) : List UInt8 := zcu x.a ++ 46 :: (zcu x.b ++ 46 :: (zcu x.c ++ 46 :: zcu x.d))
theorem yko (x : Pl) : plT x = zqw x ++ 58 :: zcu x.p := by simp [plT, zqw]
theorem yn6 (x : Pl) : ∀ y ∈ zqw x, y ≠ 58 := by
 have hd : isD 58 = false := by decide
 intro y hy
 simp only [zqw, List.mem_append, List.mem_cons] at hy
 rcases hy with h | rfl | h | rfl | h | rfl | h
 · exact zk1 58 hd y h
 · decide
 · exact zk1 58 hd y h
 · decide
 · exact zk1 58 hd y h
 · decide
 · exact zk1 58 hd y h
theorem zy3 (x : Pl) : zam (zqw x) [46] = [zcu x.a, zcu x.b, zcu x.c, zcu x.d] := by
 have hd : isD 46 = false := by decide
 show zb4 46 (zqw x) = _
 rw [zqw, zhb (zk1 46 hd), zhb (zk1 46 hd), zhb (zk1 46 hd), zwb (zk1 46 hd)]
theorem yey {n : Int} (h : 0 <= n /\ n <= 255) : zj8 n := ⟨h.1, by omega⟩
theorem ykt {x : Pl} (h : zqe x) : (1 <= x.p -> spE (plT x) = 0 /\ spP (plT x) = x) /\ (x.p = 0 -> spE (plT x) = 4) := by
 obtain ⟨c1, c2, c3⟩ := ynv (u := zqw x) (v := zcu x.p) (yn6 x)
 rw [<- yko] at c1 c2 c3
 obtain ⟨ha, hb, hc, hd, hp⟩ := h
 have hh : zp9 (plT x) = [zcu x.a, zcu x.b, zcu x.c, zcu x.d] := by rw [zp9, c1, zy3]
 have na := zff (yey ha)
 have nb := zff (yey hb)
 have nc := zff (yey hc)
 have nd := zff (yey hd)
 have np := zff (n := x.p) ⟨hp.1, by omega⟩
 have hport : zsp (plT x) = zcu x.p := c2
 have v0 : zml (plT x) 0 = x.a := by rw [zml, hh]; exact na.2
 have v1 : zml (plT x) 1 = x.b := by rw [zml, hh]; exact nb.2
 have v2 : zml (plT x) 2 = x.c := by rw [zml, hh]; exact nc.2
 have v3 : zml (plT x) 3 = x.d := by rw [zml, hh]; exact nd.2
 have e0 : yej (plT x) 0 = 0 := by rw [yej, hh]; exact na.1
 have e1 : yej (plT x) 1 = 0 := by rw [yej, hh]; exact nb.1
 have e2 : yej (plT x) 2 = 0 := by rw [yej, hh]; exact nc.1
 have e3 : yej (plT x) 3 = 0 := by rw [yej, hh]; exact nd.1
 refine ⟨fun h1 => ?_, fun h0 => if_neg fun hk => ?_⟩
 · have hok : ytt (plT x) := by
     refine ⟨c3, by rw [hh]; rfl, fun k hk => ?_, by rw [hport]; exact np.1, by rw [hport, np.2]; exact h1, by rw [hport, np.2]; exact hp.2⟩
     match k, hk with
     | 0, _ => exact ⟨e0, by rw [v0]; exact ha.2⟩
     | 1, _ => exact ⟨e1, by rw [v1]; exact hb.2⟩
     | 2, _ => exact ⟨e2, by rw [v2]; exact hc.2⟩
     | 3, _ => exact ⟨e3, by rw [v3]; exact hd.2⟩
   have hE : spE (plT x) = 0 := if_pos hok
   refine ⟨hE, ?_⟩
   rw [spP, if_pos hE, v0, v1, v2, v3, hport, np.2]
 · have := hk.2.2.2.2.1
   rw [hport, np.2, h0] at this
   omega
def zlj : zmi := (203, fun raw ob => match raw with
 | [.ref id 0] => match ob id with
   | some (.box ty cs) => some ⟨[.ref 500000 0], [(500000, .box ty cs)], True, .ref 500000 0, [(500000, .box ty cs)]⟩
   | _ => none
 | _ => none)
theorem zna : zfu Tryz.prog zlj := by
 intro raw ob T hT hp
 unfold zlj at hT
 simp only at hT
 split at hT
 · split at hT
   · cases hT
     intro D w μ vs hD hxs hdom hobs hinj hown hg hgb
     obtain ⟨v, hv⟩ : ∃ v, vs.toList = [v] := List.length_eq_one_iff.1 (by simpa using hxs.1.symm)
     have : vs = #[v] := by rw [<- Array.toArray_toList (xs := vs), hv]
     subst this
     unfold zgg
     rw [show zlj.fst = 203 from rfl, run_callFunc_extern (fn := Tryz.f203) rfl (by kernel_rfl) (by kernel_rfl) (by kernel_rfl) (e := Extern.AbiNoEscape.same) (by kernel_rfl)]
     rw [Lib.run_noEscape]
     exact ⟨v, D, μ, { ret := rfl, os := rfl, tape := rfl, output := rfl, size := Nat.le_refl _, old := fun _ _ _ => rfl, up := fun _ h => h, dn := fun _ h => .inl h, dom := hdom, obs := hobs, inj := hinj, own := fun n b z h => ⟨(hown n b z h).1, (hown n b z h).2, .inr ⟨n, z, h⟩⟩, keep := fun _ _ _ => rfl, val := hxs.2 0 _ _ rfl rfl }⟩
   · cases hT
 · cases hT
def yo5 : zmi := (179, fun raw ob => match raw with
 | [.ref id 0] => match ob id with
   | some (.box _ [.nilp, .nils]) => some ⟨[.ref 500000 0], [(500000, .box 172 [.nilp, .nils])], True, .tup [], [(500000, .box 172 [.ref 500000 0, .nils])]⟩
   | some (.box _ [.ref _ 0, .sl k 1 0 n]) => match ob k with
     | some (.row _ 1 m get) => some ⟨[.ref 500000 0], [(500000, .box 172 [.ref 500000 0, .sl 500001 1 0 m]), (500001, .row 5 1 m get)], True, .tup [], [(500000, .box 172 [.ref 500000 0, .sl 500001 1 0 m]), (500001, .row 5 1 m get)]⟩
     | _ => none
   | _ => none
 | _ => none)
theorem yt6 : zc5 Tryz.prog 179 [.ref 500000 0] [(500000, .box 172 [.nilp, .nils])] (.tup []) [(500000, .box 172 [.ref 500000 0, .nils])] := by
 refine zbp (T := tt) (S := fun L => zcb [] [zlj]) (lo := noA) (lb := noA) 5 (fn := Tryz.f179) (xs := fun L => [.ref 500000 0]) (rts := fun _ => []) (O := fun L => [(500000, .box 172 [.nilp, .nils])]) (O1 := fun L => [(500000, .box 172 [.ref 500000 0, .nils])])
   rfl rfl (by kernel_rfl) (by kernel_rfl) (by kernel_rfl) zab (zay trivial ⟨zna, trivial⟩) (by kernel_rfl) ?_
 intro L P' Q' hL hP hQ
 (cbv; try simp only [syT, true_and, and_true])
 exact ⟨fun _ => trivial, fun h => by cases h⟩
theorem yt5 (m : Nat) (get : Nat -> Nat -> AV) : zc5 Tryz.prog 179 [.ref 500000 0] [(500000, .box 172 [.ref 500000 0, .sl 500001 1 0 m]), (500001, .row 5 1 m get)] (.tup []) [(500000, .box 172 [.ref 500000 0, .sl 500001 1 0 m]), (500001, .row 5 1 m get)] := by
 refine zbp (T := tt) (S := fun L => zcb [] [zlj]) (lo := noA) (lb := noA) 5 (fn := Tryz.f179) (xs := fun L => [.ref 500000 0]) (rts := fun _ => []) (O := fun L => [(500000, .box 172 [.ref 500000 0, .sl 500001 1 0 m]), (500001, .row 5 1 m get)]) (O1 := fun L => [(500000, .box 172 [.ref 500000 0, .sl 500001 1 0 m]), (500001, .row 5 1 m get)])
   rfl rfl (by kernel_rfl) (by kernel_rfl) (by kernel_rfl) zab (zay trivial ⟨zna, trivial⟩) (by kernel_rfl) ?_
 intro L P' Q' hL hP hQ
 (cbv; try simp only [syT, true_and, and_true])
 subst hL
 simp [std]
theorem zm8 : zfu Tryz.prog yo5 := by
 intro raw ob T hT hp
 unfold yo5 at hT
 simp only at hT
 repeat' split at hT
 all_goals first | (cases hT; done) | (cases hT; exact yt6) | (cases hT; exact yt5 _ _)
def bld (L : zaa) (l : List UInt8) : List (Nat × Ob) := [(500000, .box 172 [.ref 500000 0, .sl 500001 1 0 (L lenN l)]), (500001, .row 5 1 (L lenN l) (fun i _ => .int .u8 (L2 L za9 l i)))]
def zu3 (L : zaa) (l : List UInt8) : List (Nat × Ob) := [(500000, .box 172 [.ref 500000 0, .sl 7 1 0 (L lenN l)]), (7, .row 5 1 (L lenN l) (fun i _ => .int .u8 (L2 L za9 l i)))]
def ypf : List (Nat × Ob) := [(500000, .box 172 [.nilp, .nils])]
def ye2 (L : zaa) (ob : Nat -> Option Ob) (id : Nat) : Option (Option (List UInt8)) := match ob id with
 | some (.box _ [.nilp, .nils]) => some none
 | some (.box _ [.ref _ 0, .sl k 1 0 n]) => match ob k with
   | some (.row _ 1 m get) => some (some (L2 L zbe m (fun i => (get i 0).toI)))
   | _ => none
 | _ => none
def zae (l m : List UInt8) : List UInt8 := l ++ m
def zc9 (c : Int) : List UInt8 := [UInt8.ofNat c.toNat]
def ypv (c : Int) : Prop := 0 <= c /\ c < 256
def zfy (l m : List UInt8) : Prop := l.length + m.length <= 90000000
def ytq (L : zaa) : zmi := (169, fun raw ob => match raw with
 | [.ref id 0, .int .u8 c] => match ye2 L ob id with
   | some none => some ⟨[.ref 500000 0, .int .u8 c], ypf, L ypv c, .dead, zu3 L (L zc9 c)⟩
   | some (some l) => some ⟨[.ref 500000 0, .int .u8 c], bld L l, L ypv c /\ L2 L zfy l (L zc9 c), .dead, zu3 L (L2 L zae l (L zc9 c))⟩
   | none => none
 | _ => none)
def ytp (L : zaa) : zmi := (140, fun raw ob => match raw with
 | [.ref id 0, .str s] => match ye2 L ob id with
   | some (some l) => some ⟨[.ref 500000 0, .str s], bld L l, L2 L zfy l s, .tup [.int .i64 (L slen s), .dead], zu3 L (L2 L zae l s)⟩
   | _ => none
 | _ => none)
def ywy (L : zaa) : zmi := (126, fun raw ob => match raw with
 | [.ref id 0] => match ye2 L ob id with
   | some (some l) => some ⟨[.ref 500000 0], bld L l, L (fun l => l ≠ [] /\ l.length <= 90000000) l, .str l, []⟩
   | _ => none
 | _ => none)
def ywz (L : zaa) : zmi := (125, fun raw ob => match raw with
 | [.ref id 0] => match ye2 L ob id with
   | some (some l) => some ⟨[.ref 500000 0], bld L l, True, .int .i64 (L slen l), bld L l⟩
   | _ => none
 | _ => none)
theorem zw0 {l m : List UInt8} {i : Nat} (h : i < l.length) : za9 (l ++ m) i = za9 l i := by
 simp [za9, List.getElem?_append_left h]
theorem zvz {l m : List UInt8} {i : Nat} (h : ¬ i < l.length) : za9 (l ++ m) i = za9 m (i - l.length) := by
 simp [za9, List.getElem?_append_right (show l.length <= i by omega)]
theorem zhl (l : List UInt8) : zbe l.length (fun i => za9 l i) = l := by
 apply List.ext_getElem
 · simp [zbe]
 · intro i h1 h2
   simp [zbe, za9, h2]
theorem zw1 {c : Int} (hc : ypv c) (i : Nat) (h : i < 1) : zdf [c] i = za9 (zc9 c) i := by
 have : i = 0 := by omega
 subst this
 obtain ⟨h0, h1⟩ := hc
 simp [zdf, za9, zc9, UInt8.toNat_ofNat']
 omega
theorem ypp (c : Int) (hc : ypv c) : zc5 Tryz.prog 169 [.ref 500000 0, .int .u8 c] ypf .dead (zu3 std (zc9 c)) := by
 refine zbp (T := tt) (S := fun L => zcb [] [yo5]) (lo := noA) (lb := noA) 5 (fn := Tryz.f169) (xs := fun L => [.ref 500000 0, .int .u8 c]) (rts := fun _ => [.dead]) (O := fun L => ypf) (O1 := fun L => zu3 L (L zc9 c))
   rfl rfl (by kernel_rfl) (by kernel_rfl) (by kernel_rfl) zab (zay trivial ⟨zm8, trivial⟩) (by kernel_rfl) ?_
 intro L P' Q' hL hP hQ
 (cbv; try simp only [syT, true_and, and_true])
 subst hL
 simp only [L2, L3, std, zkc]
 have h1 : lenN (zc9 c) = 1 := rfl
 rw [h1]
 exact ⟨by omega, ⟨rfl, fun i j hi hj => by rw [show Nat.add 0 i = i from Nat.zero_add i, zw1 hc i hi]⟩, rfl⟩
theorem ypo (l : List UInt8) (c : Int) (hc : ypv c) (hl : zfy l (zc9 c)) : zc5 Tryz.prog 169 [.ref 500000 0, .int .u8 c] (bld std l) .dead (zu3 std (zae l (zc9 c))) := by
 refine zbp (T := tt) (S := fun L => zcb [] [yo5]) (lo := noA) (lb := noA) 5 (fn := Tryz.f169) (xs := fun L => [.ref 500000 0, .int .u8 c]) (rts := fun _ => [.dead]) (O := fun L => bld L l) (O1 := fun L => zu3 L (L2 L zae l (L zc9 c)))
   rfl rfl (by kernel_rfl) (by kernel_rfl) (by kernel_rfl) zab (zay trivial ⟨zm8, trivial⟩) (by kernel_rfl) ?_
 intro L P' Q' hL hP hQ
 (cbv; try simp only [syT, true_and, and_true])
 subst hL
 simp only [L2, L3, std, zkc]
 have h1 : lenN (zae l (zc9 c)) = l.length + 1 := by simp [lenN, zae, zc9]
 have h2 : (zc9 c).length = 1 := rfl
 have hl : l.length + (zc9 c).length <= 90000000 := hl
 have h3 : lenN l = l.length := rfl
 rw [h1, h3]
 refine ⟨fun _ _ _ _ => trivial, by omega, ⟨rfl, fun i j hi hj => ?_⟩, rfl⟩
 by_cases h : i < l.length
 · rw [zgl h, show zae l (zc9 c) = l ++ zc9 c from rfl, zw0 h]; rfl
 · rw [zht h, show zae l (zc9 c) = l ++ zc9 c from rfl, zvz h]
   show AV.int .u8 (zdf [c] (Nat.add 0 (i - l.length))) = _
   rw [show Nat.add 0 (i - l.length) = i - l.length from Nat.zero_add _, zw1 hc _ (by omega)]
theorem yph (l s : List UInt8) (hl : zfy l s) : zc5 Tryz.prog 140 [.ref 500000 0, .str s] (bld std l) (.tup [.int .i64 (slen s), .dead]) (zu3 std (zae l s)) := by
 refine zbp (T := tt) (S := fun L => zcb [] [yo5]) (lo := noA) (lb := noA) 5 (fn := Tryz.f140) (xs := fun L => [.ref 500000 0, .str s]) (rts := fun L => [.int .i64 (L slen s), .dead]) (O := fun L => bld L l) (O1 := fun L => zu3 L (L2 L zae l s))
   rfl rfl (by kernel_rfl) (by kernel_rfl) (by kernel_rfl) zab (zay trivial ⟨zm8, trivial⟩) (by kernel_rfl) ?_
 intro L P' Q' hL hP hQ
 (cbv; try simp only [syT, true_and, and_true])
 subst hL
 simp only [L2, L3, std, zkc]
 have h1 : lenN (zae l s) = l.length + s.length := by simp [lenN, zae]
 have hl : l.length + s.length <= 90000000 := hl
 have h3 : lenN l = l.length := rfl
 rw [h1, h3]
 refine ⟨fun _ _ _ _ => trivial, by omega, ⟨rfl, fun i j hi hj => ?_⟩, rfl⟩
 by_cases h : i < l.length
 · rw [zgl h, show zae l s = l ++ s from rfl, zw0 h]; rfl
 · rw [zht h, show zae l s = l ++ s from rfl, zvz h]; rfl
theorem yte (l : List UInt8) (h0 : l ≠ []) (hl : l.length <= 90000000) : zc5 Tryz.prog 126 [.ref 500000 0] (bld std l) (.str l) [] := by
 refine zbp (T := tt) (S := fun L => zcb [] [yo5]) (lo := noA) (lb := noA) 5 (fn := Tryz.f126) (xs := fun L => [.ref 500000 0]) (rts := fun L => [.str l]) (O := fun L => bld L l) (O1 := fun L => [])
   rfl rfl (by kernel_rfl) (by kernel_rfl) (by kernel_rfl) zab (zay trivial ⟨zm8, trivial⟩) (by kernel_rfl) ?_
 intro L P' Q' hL hP hQ
 (cbv; try simp only [syT, true_and, and_true])
 subst hL
 simp only [L2, L3, std]
 have h3 : lenN l = l.length := rfl
 have h1 : 0 < l.length := List.length_pos_iff.2 h0
 refine ⟨zgl h1, ⟨by show (0 : Int) < (l.length : Int); omega, by show (l.length : Int) <= (l.length : Int); omega, by show (l.length : Int) <= _; omega, fun i hi => ⟨_, rfl, ?_, ?_⟩⟩, zhl l⟩
 · simp [za9]
 · have := UInt8.toNat_lt (l.getD i 0)
   show ((l.getD i 0).toNat : Int) < 256
   omega
theorem ytf (l : List UInt8) : zc5 Tryz.prog 125 [.ref 500000 0] (bld std l) (.int .i64 (slen l)) (bld std l) := by
 refine zbp (T := tt) (S := fun L => zcb [] [yo5]) (lo := noA) (lb := noA) 5 (fn := Tryz.f125) (xs := fun L => [.ref 500000 0]) (rts := fun L => [.int .i64 (L slen l)]) (O := fun L => bld L l) (O1 := fun L => bld L l)
   rfl rfl (by kernel_rfl) (by kernel_rfl) (by kernel_rfl) zab (zay trivial ⟨zm8, trivial⟩) (by kernel_rfl) ?_
 intro L P' Q' hL hP hQ
 (cbv; try simp only [syT, true_and, and_true])
 subst hL
 exact ⟨fun _ _ _ _ => trivial, rfl⟩
theorem zza : zfu Tryz.prog (ytq std) := by
 intro raw ob T hT hp
 unfold ytq at hT
 simp only at hT
 repeat' split at hT
 all_goals first | (cases hT; done) | (cases hT; exact ypp _ hp) | (cases hT; exact ypo _ _ hp.1 hp.2)
theorem zz4 : zfu Tryz.prog (ytp std) := by
 intro raw ob T hT hp
 unfold ytp at hT
 simp only at hT
 repeat' split at hT
 all_goals first | (cases hT; done) | (cases hT; exact yph _ _ hp)
theorem yok : zfu Tryz.prog (ywy std) := by
 intro raw ob T hT hp
 unfold ywy at hT
 simp only at hT
 repeat' split at hT
 all_goals first | (cases hT; done) | (cases hT; exact yte _ hp.1 hp.2)
theorem yom : zfu Tryz.prog (ywz std) := by
 intro raw ob T hT hp
 unfold ywz at hT
 simp only at hT
 repeat' split at hT
 all_goals first | (cases hT; done) | (cases hT; exact ytf _)
inductive CV where
 | mk (k n : Int) (s : List UInt8) (l : List CV)
namespace CV
def kd : CV -> Int
 | mk k _ _ _ => k
def nn : CV -> Int
 | mk _ n _ _ => n
def tx : CV -> List UInt8
 | mk _ _ s _ => s
def ls : CV -> List CV
 | mk _ _ _ l => l
theorem eta (v : CV) : mk v.kd v.nn v.tx v.ls = v := by cases v; rfl
end CV
def zdo (l : List CV) (i : Nat) : CV := l.getD i (.mk 0 0 [] [])
def lenL (l : List CV) : Nat := l.length
def zmg (v : CV) : Nat := v.ls.length
def sizeC : CV -> Nat
 | .mk _ _ _ l => sizeCs l + 1
where sizeCs : List CV -> Nat
 | [] => 0
 | v :: l => sizeC v + sizeCs l
abbrev sizeCs := sizeC.sizeCs
theorem zcp : sizeCs [] = 0 := by simp [sizeC.sizeCs]
theorem zbt (v : CV) (l : List CV) : sizeCs (v :: l) = sizeC v + sizeCs l := by simp [sizeC.sizeCs]
theorem zc1 (k n : Int) (s : List UInt8) (l : List CV) : sizeC (.mk k n s l) = sizeCs l + 1 := by rw [sizeC]
theorem zcz (v : CV) : 0 < sizeC v := by cases v; rw [zc1]; omega
theorem zl3 : ∀ (l : List CV) (i : Nat), i < l.length -> sizeC (zdo l i) <= sizeCs l
 | [], i, h => by simp at h
 | v :: l, 0, h => by rw [zbt]; show sizeC v <= _; omega
 | v :: l, i + 1, h => by
   have := zl3 l i (by simpa using h)
   rw [zbt]
   show sizeC (zdo l i) <= _
   omega
theorem zuw {l : List CV} {i : Nat} (h : i < l.length) : zdo l i ∈ l := by
 rw [zdo, List.getD_eq_getElem?_getD, List.getElem?_eq_getElem h]; exact List.getElem_mem h
theorem yjt {p : CV -> Prop} (h : ∀ k n s l, (∀ v ∈ l, p v) -> p (.mk k n s l)) : ∀ (m : Nat) (v : CV), sizeC v <= m -> p v
 | 0, v, hv => by have := zcz v; omega
 | m + 1, .mk k n s l, hv => h k n s l fun w hw => by
   rw [zc1] at hv
   obtain ⟨i, hi, rfl⟩ := List.getElem_of_mem hw
   have := zl3 l i hi
   have e : zdo l i = l[i] := by rw [zdo, List.getD_eq_getElem?_getD, List.getElem?_eq_getElem hi]; rfl
   rw [e] at this
   exact yjt h m _ (by omega)
theorem ydf {p : CV -> Prop} (h : ∀ k n s l, (∀ v ∈ l, p v) -> p (.mk k n s l)) (v : CV) : p v := yjt h _ v (Nat.le_refl _)
def dflC : Nat -> AV
 | 0 => .int .i64 0
 | 1 => .int .u64 0
 | 2 => .str []
 | _ => .lst 4 0 (fun _ _ => .dead)
mutual
def zeh : CV -> Nat -> AV
 | .mk k n s l, j => match j with
   | 0 => .int .i64 k
   | 1 => .int .u64 n
   | 2 => .str s
   | _ => .lst 4 l.length (ziy l)
def ziy : List CV -> Nat -> Nat -> AV
 | [], _, j => dflC j
 | v :: l, i, j => match i with
   | 0 => zeh v j
   | i + 1 => ziy l i j
end
theorem zga (v : CV) : zeh v 0 = .int .i64 v.kd := by cases v; rw [zeh]; rfl
theorem zg9 (v : CV) : zeh v 1 = .int .u64 v.nn := by cases v; rw [zeh]; rfl
theorem zg8 (v : CV) : zeh v 2 = .str v.tx := by cases v; rw [zeh]; rfl
theorem zg7 (v : CV) : zeh v 3 = .lst 4 v.ls.length (ziy v.ls) := by cases v; rw [zeh] <;> first | rfl | (intro h; cases h)
theorem zbz : ∀ (l : List CV) (i j : Nat), i < l.length -> ziy l i j = zeh (zdo l i) j
 | [], i, j, h => by simp at h
 | v :: l, 0, j, h => by rw [ziy]; rfl
 | v :: l, i + 1, j, h => by rw [ziy]; exact zbz l i j (by simpa using h)
def zkq (v : CV) : Nat -> Nat -> AV := ziy v.ls
def cv1 (L : zaa) (v : CV) : Nat -> AV
 | 0 => .int .i64 (L CV.kd v)
 | 1 => .int .u64 (L CV.nn v)
 | 2 => .str (L CV.tx v)
 | _ => .lst 4 (L zmg v) (L zkq v)
theorem ztu (v : CV) (j : Nat) (h : j < 4) : cv1 std v j = zeh v j := by
 match j, h with
 | 0, _ => rw [zga]; rfl
 | 1, _ => rw [zg9]; rfl
 | 2, _ => rw [zg8]; rfl
 | 3, _ => rw [zg7]; rfl
def cvL (L : zaa) (l : List CV) : AV := .lst 4 (L lenL l) (fun i j => cv1 L (L2 L zdo l i) j)
def cvA (L : zaa) (v : CV) : AV := .agg [.int .i64 (L CV.kd v), .int .u64 (L CV.nn v), .str (L CV.tx v), .lst 4 (L zmg v) (L zkq v)]
def rdL : AV -> List CV
 | .lst _ n get => (List.range n).map fun i => .mk (get i 0).toI (get i 1).toI (match get i 2 with | .str s => s | _ => []) (rdL (get i 3))
 | _ => []
def okL : AV -> Prop
 | .lst sz n get => sz = 4 /\ ∀ i, i < n -> (∃ x, get i 0 = .int .i64 x) /\ (∃ x, get i 1 = .int .u64 x) /\ (∃ x, get i 2 = .str x) /\ okL (get i 3)
 | .nils => True
 | _ => False
theorem zih (sz n : Nat) (get : Nat -> Nat -> AV) : (rdL (.lst sz n get)).length = n := by simp [rdL]
theorem zq5 {sz n : Nat} {get : Nat -> Nat -> AV} {i : Nat} (h : i < n) : zdo (rdL (.lst sz n get)) i = .mk (get i 0).toI (get i 1).toI (match get i 2 with | .str s => s | _ => []) (rdL (get i 3)) := by
 rw [zdo, List.getD_eq_getElem?_getD, rdL]
 simp [h]
theorem yde {a b : List CV} (h : a.length = b.length) (k : ∀ i, i < a.length -> zdo a i = zdo b i) : a = b := by
 apply List.ext_getElem h
 intro i h1 h2
 have := k i h1
 rw [zdo, zdo, List.getD_eq_getElem?_getD, List.getD_eq_getElem?_getD, List.getElem?_eq_getElem h1, List.getElem?_eq_getElem h2] at this
 exact this
theorem ylk : ∀ v : CV, rdL (zeh v 3) = v.ls /\ okL (zeh v 3) := by
 refine ydf fun k n s l ih => ?_
 rw [zg7]
 show rdL (.lst 4 l.length (ziy l)) = l /\ okL (.lst 4 l.length (ziy l))
 refine ⟨yde (zih _ _ _) fun i hi => ?_, rfl, fun i hi => ?_⟩
 · rw [zih] at hi
   rw [zq5 hi, zbz _ _ _ hi, zbz _ _ _ hi, zbz _ _ _ hi, zbz _ _ _ hi, zga, zg9, zg8, (ih _ (zuw hi)).1]
   exact CV.eta _
 · rw [zbz _ _ _ hi, zbz _ _ _ hi, zbz _ _ _ hi, zbz _ _ _ hi, zga, zg9, zg8]
   exact ⟨⟨_, rfl⟩, ⟨_, rfl⟩, ⟨_, rfl⟩, (ih _ (zuw hi)).2⟩
theorem zf1 (v : CV) : rdL (.lst 4 (zmg v) (zkq v)) = v.ls /\ okL (.lst 4 (zmg v) (zkq v)) := by
 have := ylk v
 rw [zg7] at this
 exact this
theorem yav (l : List CV) : rdL (cvL std l) = l /\ okL (cvL std l) := by
 refine ⟨yde (zih _ _ _) fun i hi => ?_, rfl, fun i hi => ⟨⟨_, rfl⟩, ⟨_, rfl⟩, ⟨_, rfl⟩, (zf1 _).2⟩⟩
 have hi : i < l.length := by rw [show (rdL (cvL std l)).length = lenL l from zih _ _ _] at hi; exact hi
 show zdo (rdL (.lst 4 (lenL l) _)) i = _
 rw [zq5 (show i < lenL l from hi)]
 show CV.mk (zdo l i).kd (zdo l i).nn (zdo l i).tx (rdL (.lst 4 (zmg (zdo l i)) (zkq (zdo l i)))) = _
 rw [(zf1 _).1, CV.eta]
theorem yr4 {h : Array Obj} {D : Nat -> Prop} : ∀ (x : AV) {μ : Mu} {v : Value}, okL x -> R h D μ x v -> R h D μ (.lst 4 (rdL x).length (ziy (rdL x))) v := by
 intro x μ v ho r
 induction r with
 | nils => exact .lst0 _ _ _ _ (fun _ => rfl)
 | lst0 sz get a cap hn => exact .lst0 _ _ _ _ hn
 | lst sz n get b o cap vs hD hc hv h1 hr ih =>
   obtain ⟨rfl, ho⟩ := ho
   rw [zih]
   refine .lst _ _ _ b o cap vs hD hc hv h1 (fun i j hi hj => ?_)
   rw [zbz _ _ _ (by rw [zih]; exact hi), zq5 hi]
   obtain ⟨⟨x0, e0⟩, ⟨x1, e1⟩, ⟨x2, e2⟩, o3⟩ := ho i hi
   have hj' := hr i j hi hj
   match j, hj with
   | 0, _ => rw [zga]; rw [e0] at hj' |-; exact hj'
   | 1, _ => rw [zg9]; rw [e1] at hj' |-; exact hj'
   | 2, _ => rw [zg8]; rw [e2] at hj' |-; exact hj'
   | 3, _ => rw [zg7]; exact ih i 3 hi (by omega) o3
 | _ => exact ho.elim
theorem ysz {h : Array Obj} {D : Nat -> Prop} {μ : Mu} {l : List CV} {v : Value} (r : R h D μ (.lst 4 l.length (ziy l)) v) : R h D μ (cvL std l) v :=
 zox r fun i j hi hj => by
   rw [zbz _ _ _ hi]
   exact (ztu _ j hj).symm
mutual
def zco : CV -> Int
 | .mk k _ _ l => if k = 3 then zb7 l + 1 else 0
def zb7 : List CV -> Int
 | [] => 0
 | v :: l => max (zco v) (zb7 l)
end
theorem znl : ∀ a b : List CV, zb7 (a ++ b) = max (zb7 a) (zb7 b)
 | [], b => by
   rw [List.nil_append, zb7]
   have : ∀ b : List CV, 0 <= zb7 b := by
     intro b
     induction b with
     | nil => rw [zb7]; omega
     | cons v l ih => rw [zb7]; omega
   have := this b
   omega
 | v :: a, b => by rw [List.cons_append, zb7, znl a b, zb7]; omega
theorem zud {l : List CV} {i : Nat} (h : i < l.length) : l.take (i + 1) = l.take i ++ [zdo l i] := by
 rw [List.take_succ_eq_append_getElem h, zdo, List.getD_eq_getElem?_getD, List.getElem?_eq_getElem h]; rfl
def zey (l : List CV) (i : Nat) : Int := zb7 (l.take i)
theorem zi5 {l : List CV} {i : Nat} (h : i < l.length) : zey l (i + 1) = max (zey l i) (zco (zdo l i)) := by
 unfold zey
 rw [zud h, znl, zb7, zb7]
 have : 0 <= zco (zdo l i) \/ True := .inr trivial
 have h0 : ∀ b : List CV, 0 <= zb7 b := by
   intro b
   induction b with
   | nil => rw [zb7]; omega
   | cons v l ih => rw [zb7]; omega
 have := h0 (l.take i)
 omega
mutual
def zds : CV -> Bool
 | .mk k n s l => if k = 1 then decide (s = []) && l.isEmpty else if k = 2 then decide (n = 0) && l.isEmpty else if k = 3 then decide (n = 0) && decide (s = []) && zcw l else false
def zcw : List CV -> Bool
 | [] => true
 | v :: l => zds v && zcw l
end
def zgb (k : Int) : List UInt8 := [UInt8.ofNat (k % 256).toNat]
mutual
def zbr : CV -> List UInt8
 | .mk k n s l => zgb k ++ if k = 1 then zas n else if k = 2 then zas s.length ++ s else zas l.length ++ zb2 l
def zb2 : List CV -> List UInt8
 | [] => []
 | v :: l => zbr v ++ zb2 l
end
theorem zj9 : ∀ a b : List CV, zb2 (a ++ b) = zb2 a ++ zb2 b
 | [], b => by rw [zb2]; rfl
 | v :: a, b => by rw [List.cons_append, zb2, zj9 a b, zb2, List.append_assoc]
def zf8 (l : List CV) (i : Nat) : List UInt8 := zb2 (l.take i)
theorem zch {l : List CV} {i : Nat} (h : i < l.length) : zf8 l (i + 1) = zf8 l i ++ zbr (zdo l i) := by
 unfold zf8
 rw [zud h, zj9, zb2, zb2, List.append_nil]
def mkV (L : zaa) (k n : Int) (s : List UInt8) (x : AV) : CV := L (L (L (L CV.mk k) n) s) (L rdL x)
def zk3 (N : Nat) (v : CV) : Prop := sizeC v <= N /\ N <= 1000000
def zs3 (N : Nat) (l : List CV) : Prop := sizeCs l <= N /\ N <= 1000000
theorem zdp : ∀ l : List CV, l.length <= sizeCs l
 | [] => by simp
 | v :: l => by
   have := zdp l
   have := zcz v
   rw [zbt, List.length_cons]; omega
theorem zes {N : Nat} {l : List CV} {i : Nat} (h : zs3 N l) (hi : i < l.length) : zk3 N (zdo l i) := by
 have := zl3 l i hi
 exact ⟨by have := h.1; omega, h.2⟩
theorem zaf {N : Nat} {k n : Int} {s : List UInt8} {l : List CV} : zk3 (N + 1) (.mk k n s l) = (zs3 N l /\ N + 1 <= 1000000) := by
 unfold zk3 zs3
 rw [zc1]
 exact propext ⟨fun h => ⟨⟨by omega, by omega⟩, by omega⟩, fun h => ⟨by have := h.1.1; omega, h.2⟩⟩
theorem zbd (v : CV) : CV.mk v.kd v.nn v.tx (rdL (.lst 4 (zmg v) (zkq v))) = v := by rw [(zf1 v).1]; exact CV.eta v
theorem zai (v : CV) : mkV std v.kd v.nn v.tx (.lst 4 (zmg v) (zkq v)) = v := zbd v
theorem rdl (l : List CV) : rdL (.lst 4 (lenL l) fun i => cv1 std (zdo l i)) = l := (yav l).1
theorem okl (l : List CV) : okL (.lst 4 (lenL l) fun i => cv1 std (zdo l i)) := (yav l).2
theorem mkl (k n : Int) (s : List UInt8) (l : List CV) : mkV std k n s (.lst 4 (lenL l) fun i => cv1 std (zdo l i)) = .mk k n s l := by
 show CV.mk k n s (rdL _) = _
 rw [rdl]
theorem yke {h : Array Obj} {D : Nat -> Prop} {μ : Mu} {a b c x : AV} {v : Value} (ho : okL x) (r : R h D μ (.agg [a, b, c, x]) v) : R h D μ (.agg [a, b, c, cvL std (rdL x)]) v := by
 obtain ⟨us, rfl, o1, s1, hr⟩ := r.inv_agg
 refine .agg _ _ (by rw [<- s1]; rfl) o1 fun i y v hy hv => ?_
 match i, hy with
 | 0, hy => cases hy; exact hr 0 _ v rfl hv
 | 1, hy => cases hy; exact hr 1 _ v rfl hv
 | 2, hy => cases hy; exact hr 2 _ v rfl hv
 | 3, hy => cases hy; exact ysz (yr4 x ho (hr 3 _ v rfl hv))
 | i + 4, hy => simp at hy
theorem ylg {h : Array Obj} {D : Nat -> Prop} {μ : Mu} {x y : AV} {r : List AV} {vs : Array Value} (e : ∀ v, R h D μ x v -> R h D μ y v) (hr : RL h D μ (x :: r) vs) : RL h D μ (y :: r) vs := by
 refine ⟨by rw [<- hr.1]; rfl, fun i z v hz hv => ?_⟩
 cases i with
 | zero => cases hz; exact e v (hr.2 0 x v rfl hv)
 | succ i => exact hr.2 (i + 1) z v hz hv
theorem yql {h : Array Obj} {D : Nat -> Prop} {μ : Mu} {a x y : AV} {r : List AV} {vs : Array Value} (e : ∀ v, R h D μ x v -> R h D μ y v) (hr : RL h D μ (a :: x :: r) vs) : RL h D μ (a :: y :: r) vs := by
 refine ⟨by rw [<- hr.1]; rfl, fun i z v hz hv => ?_⟩
 match i, hz with
 | 0, hz => exact hr.2 0 z v hz hv
 | 1, hz => cases hz; exact e v (hr.2 1 x v rfl hv)
 | i + 2, hz => exact hr.2 (i + 2) z v hz hv
theorem ze0 {P : Program} {f : FuncId} {xs ys : List AV} {r : AV} (h : ∀ h D vs, RL h D zax xs vs -> RL h D zax ys vs) (ha : za7 P f ys r) : za7 P f xs r := fun D w vs hD hx => ha D w vs hD (h _ _ _ hx)
theorem yk0 {P : Program} {f : FuncId} {a b c x r : AV} (ho : okL x) (h : za7 P f [.agg [a, b, c, cvL std (rdL x)]] r) : za7 P f [.agg [a, b, c, x]] r :=
 ze0 (fun h D vs hr => ylg (fun v => yke ho) hr) h
theorem yrp {h : Array Obj} {D : Nat -> Prop} {μ : Mu} {x : AV} {v : Value} (ho : okL x) (r : R h D μ x v) : R h D μ (cvL std (rdL x)) v := ysz (yr4 x ho r)
theorem yug {P : Program} {f : FuncId} {x r : AV} {q : List AV} (ho : okL x) (h : za7 P f (cvL std (rdL x) :: q) r) : za7 P f (x :: q) r :=
 ze0 (fun h D vs hr => ylg (fun v => yrp ho) hr) h
def ywk (L : zaa) (l : List CV) : Nat -> St -> Option Ann := fun id s => match id with
 | 0 => some ⟨Nat, fun i => [(12, .int .i64 (L zav i)), (3, .int .i64 (L2 L zey l i))], fun i => [], [10, 11], [],
     fun i => L2 L (fun (l : List CV) i => i <= l.length) l i, fun i => L2 L (fun (l : List CV) (i : Nat) => l.length - i) l i⟩
 | _ => none
def zrb (N : Nat) (L : zaa) : zbg := (123, fun xs => match xs with
 | [.agg [.int .i64 k, .int .u64 n, .str s, x]] => some (L okL x /\ L2 L zk3 N (mkV L k n s x), .int .i64 (L zco (mkV L k n s x)))
 | _ => none)
theorem ynt : ∀ v, 0 <= zco v /\ zco v <= (sizeC v : Int) := by
 refine ydf fun k n s l ih => ?_
 have : ∀ m : List CV, (∀ v ∈ m, 0 <= zco v /\ zco v <= (sizeC v : Int)) -> 0 <= zb7 m /\ zb7 m <= (sizeCs m : Int) := by
   intro m
   induction m with
   | nil => intro _; rw [zb7, zcp]; omega
   | cons v m ih =>
     intro h
     have h1 := h v (by simp)
     have h2 := ih fun w hw => h w (by simp [hw])
     rw [zb7, zbt]; omega
 have := this l ih
 rw [zco, zc1]
 split <;> omega
theorem zrc (l : List CV) (i : Nat) : 0 <= zey l i /\ zey l i <= (sizeCs l : Int) := by
 have h1 : ∀ m : List CV, 0 <= zb7 m /\ zb7 m <= (sizeCs m : Int) := by
   intro m
   induction m with
   | nil => rw [zb7, zcp]; omega
   | cons v m ih => have := ynt v; rw [zb7, zbt]; omega
 have h2 := h1 (l.take i)
 have h3 : ∀ (m : List CV) (i : Nat), sizeCs (m.take i) <= sizeCs m := by
   intro m
   induction m with
   | nil => intro i; simp
   | cons v m ih =>
     intro i
     cases i with
     | zero => rw [List.take_zero, zcp]; omega
     | succ i => have := ih i; rw [List.take_succ_cons, zbt, zbt]; omega
 have := h3 l i
 exact ⟨h2.1, by unfold zey; omega⟩
theorem ydd : ∀ N, zaz Tryz.prog (zrb N std) := by
 intro N
 induction N with
 | zero =>
   intro xs p r h hp
   unfold zrb at h
   simp only at h
   split at h
   · rename_i k n s x
     cases h
     have h1 : sizeC (mkV std k n s x) <= 0 := hp.2.1
     have := zcz (mkV std k n s x)
     omega
   · cases h
 | succ N ih =>
   intro xs p r h hp
   unfold zrb at h
   simp only at h
   split at h
   · rename_i k n s x
     cases h
     obtain ⟨ho, hz⟩ := hp
     refine yk0 ho ?_
     show za7 _ _ _ (.int .i64 (zco (.mk k n s (rdL x))))
     have hz : zk3 (N + 1) (.mk k n s (rdL x)) := hz
     generalize rdL x = l at hz |-
     refine za2 (T := tt) (S := fun L => zao [zrb N L]) (lo := fun L => ywk L l) (lb := noA) 5 (fn := Tryz.f123) (xs := fun L => [.agg [.int .i64 k, .int .u64 n, .str s, cvL L l]]) rfl rfl (by kernel_rfl) (by kernel_rfl) rfl zab
       (za3 ⟨ih, trivial⟩) (by kernel_rfl) ?_
     intro L P' Q' hL hP hQ
     (cbv; try simp only [syT, true_and, and_true])
     refine ⟨fun h => ?_, fun h => ⟨⟨0, ?_⟩, fun i hi => ?_⟩⟩
     · (subst hL; subst hQ; simp only [L2, L3, std] at *; try simp only [syS, reduceCtorEq, Int.reduceToNat, Int.reduceAdd, Int.reduceSub] at *)
       rw [zco, if_neg h]
     · (cbv; try simp only [syT, true_and, and_true])
       (subst hL; subst hQ; simp only [L2, L3, std] at *; try simp only [syS, reduceCtorEq, Int.reduceToNat, Int.reduceAdd, Int.reduceSub] at *)
       exact ⟨by rw [zey, List.take_zero, zb7], Nat.zero_le _⟩
     · cbv at hi
       (cbv; try simp only [syT, true_and, and_true])
       refine ⟨fun hlt => ⟨?_, ⟨?_, ?_⟩, ⟨i + 1, ?_⟩⟩, fun hge => ?_⟩
       · (subst hL; subst hQ; simp only [L2, L3, std] at *; try simp only [syS, reduceCtorEq, Int.reduceToNat, Int.reduceAdd, Int.reduceSub] at *)
         omega
       · (subst hL; subst hQ; simp only [L2, L3, std] at *; try simp only [syS, reduceCtorEq, Int.reduceToNat, Int.reduceAdd, Int.reduceSub] at *)
         exact (zf1 _).2
       · (subst hL; subst hQ; simp only [L2, L3, std] at *; try simp only [syS, reduceCtorEq, Int.reduceToNat, Int.reduceAdd, Int.reduceSub] at *)
         rw [zbd]
         rw [zaf] at hz
         exact zes hz.1 (by have : lenL l = l.length := rfl; omega)
       · (cbv; try simp only [syT, true_and, and_true])
         (subst hL; subst hQ; simp only [L2, L3, std] at *; try simp only [syS, reduceCtorEq, Int.reduceToNat, Int.reduceAdd, Int.reduceSub] at *)
         have : lenL l = l.length := rfl
         have := zdp l
         have h1 := hz.1
         have h2 := hz.2
         rw [zc1] at h1
         rw [zai]
         exact ⟨by rw [zi5 (by omega)], by omega, by omega, by omega⟩
       · (subst hL; subst hQ; simp only [L2, L3, std] at *; try simp only [syS, reduceCtorEq, Int.reduceToNat, Int.reduceAdd, Int.reduceSub] at *)
         have : lenL l = l.length := rfl
         have hil : i = l.length := by omega
         have h3 := zrc l i
         have h1 := hz.1
         have h2 := hz.2
         rw [zc1] at h1
         rw [zco, if_pos h, hil, zey, List.take_length]
         rw [hil, zey, List.take_length] at h3
         omega
   · cases h
def yqr (L : zaa) (l : List CV) : Nat -> St -> Option Ann := fun id s => match id with
 | 0 => some ⟨Nat, fun i => [(13, .int .i64 (L zav i)), (3, .int .i64 (L2 L zey l i))], fun i => [], [11, 12], [],
     fun i => L2 L (fun (l : List CV) i => i <= l.length) l i, fun i => L2 L (fun (l : List CV) (i : Nat) => l.length - i) l i⟩
 | _ => none
def zl9 (N : Nat) (L : zaa) : zbg := (149, fun xs => match xs with
 | [.agg [.int .i64 k, .int .u64 n, .str s, x]] => some (L okL x /\ L2 L zk3 N (mkV L k n s x), .int .i64 (L zco (mkV L k n s x)))
 | _ => none)
theorem zx8 : ∀ N, zaz Tryz.prog (zl9 N std) := by
 intro N
 induction N with
 | zero =>
   intro xs p r h hp
   unfold zl9 at h
   simp only at h
   split at h
   · rename_i k n s x
     cases h
     have h1 : sizeC (mkV std k n s x) <= 0 := hp.2.1
     have := zcz (mkV std k n s x)
     omega
   · cases h
 | succ N ih =>
   intro xs p r h hp
   unfold zl9 at h
   simp only at h
   split at h
   rotate_left
   · cases h
   rename_i k n s x
   cases h
   obtain ⟨ho, hz⟩ := hp
   refine yk0 ho ?_
   rw [show mkV std k n s x = .mk k n s (rdL x) from rfl] at hz |-
   generalize rdL x = l at hz |-
   have hz : zk3 (N + 1) (.mk k n s l) := hz
   refine za2 (T := tt) (S := fun L => zao [zl9 N L]) (lo := fun L => yqr L l) (lb := noA) 5 (fn := Tryz.f149) (xs := fun L => [.agg [.int .i64 k, .int .u64 n, .str s, cvL L l]]) rfl rfl (by kernel_rfl) (by kernel_rfl) rfl zab
     (za3 ⟨ih, trivial⟩) (by kernel_rfl) ?_
   intro L P' Q' hL hP hQ
   (cbv; try simp only [syT, true_and, and_true])
   refine ⟨fun h => ?_, fun h => ⟨⟨0, ?_⟩, fun i hi => ?_⟩⟩
   · (subst hL; subst hQ; simp only [L2, L3, std] at *; try simp only [syS, reduceCtorEq, Int.reduceToNat, Int.reduceAdd, Int.reduceSub] at *)
     rw [zco, if_neg h]
   · (cbv; try simp only [syT, true_and, and_true])
     (subst hL; subst hQ; simp only [L2, L3, std] at *; try simp only [syS, reduceCtorEq, Int.reduceToNat, Int.reduceAdd, Int.reduceSub] at *)
     exact ⟨by rw [zey, List.take_zero, zb7], Nat.zero_le _⟩
   · cbv at hi
     (cbv; try simp only [syT, true_and, and_true])
     refine ⟨fun hlt => ⟨?_, ⟨?_, ?_⟩, fun hgt => ⟨i + 1, ?_⟩, fun hgt => ⟨i + 1, ?_⟩⟩, fun hge => ?_⟩
     · (subst hL; subst hQ; simp only [L2, L3, std] at *; try simp only [syS, reduceCtorEq, Int.reduceToNat, Int.reduceAdd, Int.reduceSub] at *)
       omega
     · (subst hL; subst hQ; simp only [L2, L3, std] at *; try simp only [syS, reduceCtorEq, Int.reduceToNat, Int.reduceAdd, Int.reduceSub] at *)
       exact (zf1 _).2
     · (subst hL; subst hQ; simp only [L2, L3, std] at *; try simp only [syS, reduceCtorEq, Int.reduceToNat, Int.reduceAdd, Int.reduceSub] at *)
       rw [zbd]
       rw [zaf] at hz
       exact zes hz.1 (by have : lenL l = l.length := rfl; omega)
     · (cbv; try simp only [syT, true_and, and_true])
       (subst hL; subst hQ; simp only [L2, L3, std] at *; try simp only [syS, reduceCtorEq, Int.reduceToNat, Int.reduceAdd, Int.reduceSub] at *)
       have : lenL l = l.length := rfl
       have := zdp l
       have h1 := hz.1
       have h2 := hz.2
       rw [zc1] at h1
       rw [zai] at hgt |-
       exact ⟨by rw [zi5 (by omega)]; omega, by omega, by omega, by omega⟩
     · (cbv; try simp only [syT, true_and, and_true])
       (subst hL; subst hQ; simp only [L2, L3, std] at *; try simp only [syS, reduceCtorEq, Int.reduceToNat, Int.reduceAdd, Int.reduceSub] at *)
       have : lenL l = l.length := rfl
       have := zdp l
       have h1 := hz.1
       have h2 := hz.2
       rw [zc1] at h1
       rw [zai] at hgt
       exact ⟨by rw [zi5 (by omega)]; omega, by omega, by omega, by omega⟩
     · (subst hL; subst hQ; simp only [L2, L3, std] at *; try simp only [syS, reduceCtorEq, Int.reduceToNat, Int.reduceAdd, Int.reduceSub] at *)
       have : lenL l = l.length := rfl
       have hil : i = l.length := by omega
       have h3 := zrc l i
       have h1 := hz.1
       have h2 := hz.2
       rw [zc1] at h1
       rw [zco, if_pos h, hil, zey, List.take_length]
       rw [hil, zey, List.take_length] at h3
       omega
theorem zau : ∀ l : List CV, zcw l = true ↔ ∀ i, i < l.length -> zds (zdo l i) = true
 | [] => by rw [zcw]; simp
 | v :: l => by
   rw [zcw, Bool.and_eq_true, zau l]
   refine ⟨fun ⟨h1, h2⟩ i hi => ?_, fun h => ⟨h 0 (by simp), fun i hi => h (i + 1) (by simpa using hi)⟩⟩
   cases i with
   | zero => exact h1
   | succ i => exact h2 i (by simpa using hi)
def yha (l : List CV) : Int := if zcw l = true then -1 else (l.findIdx fun v => !zds v : Nat)
def yjy (l : List CV) (i : Nat) : Prop := i <= l.length /\ ∀ j, j < i -> zds (zdo l j) = true
theorem yn3 {l : List CV} {i : Nat} (hi : i < l.length) (h : ∀ j, j < i -> zds (zdo l j) = true) (hn : zds (zdo l i) = false) : yha l = (i : Int) := by
 have hb : ¬ zcw l = true := by
   rw [zau]
   intro h2
   have := h2 i hi
   rw [hn] at this; cases this
 rw [yha, if_neg hb]
 congr 1
 rw [List.findIdx_eq hi]
 have get : ∀ (j : Nat) (hj : j < l.length), l[j] = zdo l j := by
   intro j hj
   rw [zdo, List.getD_eq_getElem?_getD, List.getElem?_eq_getElem hj]; rfl
 refine ⟨by rw [get i hi, hn]; rfl, fun j hj => ?_⟩
 have hj' := h j hj
 rw [get j (by omega), hj']; rfl
theorem yh9 {l : List CV} (h : ∀ j, j < l.length -> zds (zdo l j) = true) : yha l = -1 := by rw [yha, if_pos ((zau l).2 h)]
theorem yn2 (l : List CV) : (0 <= yha l) = (zcw l = false) := by
 unfold yha
 split
 · rename_i h; rw [h]; simp
 · rename_i h; simp at h; rw [h]; simp
def yue (N : Nat) (L : zaa) : zbg := (168, fun xs => match xs with
 | [.agg [.int .i64 k, .int .u64 n, .str s, x]] => some (L okL x /\ L2 L zk3 N (mkV L k n s x), .bool (L not (L zds (mkV L k n s x))))
 | _ => none)
def yu8 (N : Nat) (L : zaa) : zbg := (194, fun xs => match xs with
 | [x, .fn 168 [] []] => some (L okL x /\ L2 L zs3 N (L rdL x), .int .i64 (L yha (L rdL x)))
 | _ => none)
def ywo (N : Nat) (L : zaa) : zbg := (167, fun xs => match xs with
 | [x, .fn 168 [] []] => some (L okL x /\ L2 L zs3 N (L rdL x), .bool (L not (L zcw (L rdL x))))
 | _ => none)
def znp (N : Nat) (L : zaa) : zbg := (122, fun xs => match xs with
 | [.agg [.int .i64 k, .int .u64 n, .str s, x]] => some (L okL x /\ L2 L zk3 N (mkV L k n s x), .bool (L zds (mkV L k n s x)))
 | _ => none)
theorem yvs (l : List CV) : ieq ((lenL l : Nat) : Int) 0 = l.isEmpty := by
 cases l with
 | nil => rfl
 | cons v l =>
   simp [lenL, ieq]
   omega
theorem ys2 (a b : Int) : (ile a b = false) = ¬ a <= b := by simp [ile]
theorem yx0 {N : Nat} (ih : zaz Tryz.prog (znp N std)) : zaz Tryz.prog (yue N std) := by
 intro xs p r h hp
 unfold yue at h
 simp only at h
 split at h
 rotate_left
 · cases h
 rename_i k n s x
 cases h
 obtain ⟨ho, hz⟩ := hp
 refine yk0 ho ?_
 rw [show mkV std k n s x = .mk k n s (rdL x) from rfl] at hz |-
 generalize rdL x = l at hz |-
 have hz : zk3 N (.mk k n s l) := hz
 refine za2 (xs := fun L => [.agg [.int .i64 k, .int .u64 n, .str s, cvL L l]]) (T := tt) (S := fun L => zao [znp N L]) (lo := noA) (lb := noA) 5 (fn := Tryz.f168) rfl rfl (by kernel_rfl) (by kernel_rfl) rfl zab (za3 ⟨ih, trivial⟩) (by kernel_rfl) ?_
 intro L P' Q' hL hP hQ
 (cbv; try simp only [syT, true_and, and_true])
 (subst hL; subst hQ; simp only [L2, L3, std] at *; try simp only [syS, reduceCtorEq, Int.reduceToNat, Int.reduceAdd, Int.reduceSub] at *)
 rw [rdl, mkl]
 exact ⟨⟨okl l, hz⟩, rfl⟩
def ifA (L : zaa) (l : List CV) : Nat -> St -> Option Ann := fun id s => match id with
 | 0 => some ⟨Nat, fun i => [(8, .int .i64 (L zav i))], fun i => [], [0, 1, 6, 7], [],
     fun i => L2 L yjy l i, fun i => L2 L (fun (l : List CV) (i : Nat) => l.length - i) l i⟩
 | _ => none
theorem yw5 {N : Nat} (ih : zaz Tryz.prog (yue N std)) : zaz Tryz.prog (yu8 N std) := by
 intro xs p r h hp
 unfold yu8 at h
 simp only at h
 split at h
 rotate_left
 · cases h
 rename_i x
 cases h
 obtain ⟨ho, hz⟩ := hp
 refine yug ho ?_
 have hz : zs3 N (rdL x) := hz
 show za7 _ _ _ (.int .i64 (yha (rdL x)))
 generalize rdL x = l at hz |-
 refine za2 (T := tt) (S := fun L => zao [yue N L]) (lo := fun L => ifA L l) (lb := noA) 5 (fn := Tryz.f194) (xs := fun L => [cvL L l, .fn 168 [] []]) rfl rfl (by kernel_rfl) (by kernel_rfl) rfl zab
   (za3 ⟨ih, trivial⟩) (by kernel_rfl) ?_
 intro L P' Q' hL hP hQ
 (cbv; try simp only [syT, true_and, and_true])
 refine ⟨⟨0, ?_⟩, fun i hi => ?_⟩
 · (cbv; try simp only [syT, true_and, and_true])
   (subst hL; subst hQ; simp only [L2, L3, std] at *; try simp only [syS, reduceCtorEq, Int.reduceToNat, Int.reduceAdd, Int.reduceSub] at *)
   exact ⟨Nat.zero_le _, fun j hj => by omega⟩
 · cbv at hi
   (cbv; try simp only [syT, true_and, and_true])
   refine ⟨fun hlt => ⟨?_, ⟨?_, ?_⟩, fun hb => ?_, fun hb => ⟨i + 1, ?_⟩⟩, fun hge => ?_⟩
   · (subst hL; subst hQ; simp only [L2, L3, std] at *; try simp only [syS, reduceCtorEq, Int.reduceToNat, Int.reduceAdd, Int.reduceSub] at *)
     omega
   · (subst hL; subst hQ; simp only [L2, L3, std] at *; try simp only [syS, reduceCtorEq, Int.reduceToNat, Int.reduceAdd, Int.reduceSub] at *)
     exact (zf1 _).2
   · (subst hL; subst hQ; simp only [L2, L3, std] at *; try simp only [syS, reduceCtorEq, Int.reduceToNat, Int.reduceAdd, Int.reduceSub] at *)
     rw [zbd]
     exact zes hz (by have : lenL l = l.length := rfl; omega)
   · (subst hL; subst hQ; simp only [L2, L3, std] at *; try simp only [syS, reduceCtorEq, Int.reduceToNat, Int.reduceAdd, Int.reduceSub] at *)
     rw [zai] at hb
     exact (yn3 (by have : lenL l = l.length := rfl; omega) hi.2 hb).symm
   · (cbv; try simp only [syT, true_and, and_true])
     (subst hL; subst hQ; simp only [L2, L3, std] at *; try simp only [syS, reduceCtorEq, Int.reduceToNat, Int.reduceAdd, Int.reduceSub] at *)
     rw [zai] at hb
     have : lenL l = l.length := rfl
     have := zdp l
     have h1 := hz.1
     have h2 := hz.2
     refine ⟨by omega, ⟨by omega, fun j hj => ?_⟩, by omega⟩
     by_cases e : j = i
     · rw [e]; exact hb
     · exact hi.2 j (by omega)
   · (subst hL; subst hQ; simp only [L2, L3, std] at *; try simp only [syS, reduceCtorEq, Int.reduceToNat, Int.reduceAdd, Int.reduceSub] at *)
     have : lenL l = l.length := rfl
     exact (yh9 fun j hj => hi.2 j (by omega)).symm
theorem ywp {N : Nat} (ih : zaz Tryz.prog (yu8 N std)) : zaz Tryz.prog (ywo N std) := by
 intro xs p r h hp
 unfold ywo at h
 simp only at h
 split at h
 rotate_left
 · cases h
 rename_i x
 cases h
 obtain ⟨ho, hz⟩ := hp
 refine yug ho ?_
 have hz : zs3 N (rdL x) := hz
 show za7 _ _ _ (.bool (not (zcw (rdL x))))
 generalize rdL x = l at hz |-
 refine za2 (xs := fun L => [cvL L l, .fn 168 [] []]) (T := tt) (S := fun L => zao [yu8 N L]) (lo := noA) (lb := noA) 5 (fn := Tryz.f167) rfl rfl (by kernel_rfl) (by kernel_rfl) rfl zab (za3 ⟨ih, trivial⟩) (by kernel_rfl) ?_
 intro L P' Q' hL hP hQ
 (cbv; try simp only [syT, true_and, and_true])
 (subst hL; subst hQ; simp only [L2, L3, std] at *; try simp only [syS, reduceCtorEq, Int.reduceToNat, Int.reduceAdd, Int.reduceSub] at *)
 rw [rdl]
 refine ⟨⟨okl l, hz⟩, ?_⟩
 have := yn2 l
 cases hb : zcw l with
 | true =>
   rw [hb] at this
   simp only [Bool.true_eq_false, eq_iff_iff, iff_false] at this
   have h : ile 0 (yha l) = false := by rw [ys2]; exact this
   rw [h]; rfl
 | false =>
   rw [hb] at this
   simp only [eq_iff_iff, iff_true] at this
   simpa [ile] using this
theorem ye4 : ∀ N, zaz Tryz.prog (znp N std) := by
 intro N
 induction N with
 | zero =>
   intro xs p r h hp
   unfold znp at h
   simp only at h
   split at h
   · rename_i k n s x
     cases h
     have h1 : sizeC (mkV std k n s x) <= 0 := hp.2.1
     have := zcz (mkV std k n s x)
     omega
   · cases h
 | succ N ih =>
   intro xs p r h hp
   unfold znp at h
   simp only at h
   split at h
   rotate_left
   · cases h
   rename_i k n s x
   cases h
   obtain ⟨ho, hz⟩ := hp
   refine yk0 ho ?_
   rw [show mkV std k n s x = .mk k n s (rdL x) from rfl] at hz |-
   generalize rdL x = l at hz |-
   have hz : zk3 (N + 1) (.mk k n s l) := hz
   refine za2 (T := tt) (S := fun L => zao [ywo N L]) (lo := noA) (lb := noA) 5 (fn := Tryz.f122) (xs := fun L => [.agg [.int .i64 k, .int .u64 n, .str s, cvL L l]]) rfl rfl (by kernel_rfl) (by kernel_rfl) rfl zab
     (za3 ⟨ywp (yw5 (yx0 ih)), trivial⟩) (by kernel_rfl) ?_
   intro L P' Q' hL hP hQ
   (cbv; try simp only [syT, true_and, and_true])
   (subst hL; subst hQ; simp only [L2, L3, std] at *; try simp only [syS, reduceCtorEq, Int.reduceToNat, Int.reduceAdd, Int.reduceSub] at *)
   simp only [rdl, yvs]
   rw [zaf] at hz
   rw [zds]
   by_cases h1 : k = 1
   · simp [h1]
     exact ⟨fun a _ => a, fun a b => absurd b a⟩
   · by_cases h2 : k = 2
     · simp [h2]
       exact ⟨fun a _ => a, fun a b => absurd b a⟩
     · by_cases h3 : k = 3
       · simp [h3]
         refine ⟨fun h4 => ⟨fun h5 => ⟨⟨okl l, hz.1⟩, by simp [h4, h5]⟩, fun h5 => by simp [h5]⟩, fun h4 => by simp [h4]⟩
       · simp [h1, h2, h3]
def yqx (L : zaa) (l : List CV) : Nat -> St -> Option Ann := fun id s => match id with
 | 0 => some ⟨Nat, fun i => [(47, .int .i64 (L zav i))], fun i => [], [45, 46], [],
     fun i => L2 L yjy l i, fun i => L2 L (fun (l : List CV) (i : Nat) => l.length - i) l i⟩
 | _ => none
def zlb (N : Nat) (L : zaa) : zbg := (148, fun xs => match xs with
 | [.agg [.int .i64 k, .int .u64 n, .str s, x]] => some (L okL x /\ L2 L zk3 N (mkV L k n s x), .bool (L zds (mkV L k n s x)))
 | _ => none)
theorem zd8 (k n : Int) (s : List UInt8) (l : List CV) : zds (.mk k n s l) = true ↔ 1 <= k /\ k <= 3 /\ (k ≠ 1 -> n = 0) /\ (k ≠ 2 -> s = []) /\ (k ≠ 3 -> l = []) /\ zcw l = true := by
 have hl : l = [] -> zcw l = true := by rintro rfl; rw [zcw]
 rw [zds]
 by_cases h1 : k = 1
 · simp [h1]
   exact fun _ h => hl h
 · by_cases h2 : k = 2
   · simp [h2]
     exact fun _ h => hl h
   · by_cases h3 : k = 3
     · simp [h3, and_assoc]
     · simp [h1, h2, h3]
       intros; omega
theorem zbo {k n : Int} {s : List UInt8} {l : List CV} (h : ¬ (1 <= k /\ k <= 3 /\ (k ≠ 1 -> n = 0) /\ (k ≠ 2 -> s = []) /\ (k ≠ 3 -> l = []) /\ zcw l = true)) : zds (.mk k n s l) = false := by
 cases e : zds (.mk k n s l) with
 | false => rfl
 | true => exact absurd ((zd8 _ _ _ _).1 e) h
theorem zxb : ∀ N, zaz Tryz.prog (zlb N std) := by
 intro N
 induction N with
 | zero =>
   intro xs p r h hp
   unfold zlb at h
   simp only at h
   split at h
   · rename_i k n s x
     cases h
     have h1 : sizeC (mkV std k n s x) <= 0 := hp.2.1
     have := zcz (mkV std k n s x)
     omega
   · cases h
 | succ N ih =>
   intro xs p r h hp
   unfold zlb at h
   simp only at h
   split at h
   rotate_left
   · cases h
   rename_i k n s x
   cases h
   obtain ⟨ho, hz⟩ := hp
   refine yk0 ho ?_
   rw [show mkV std k n s x = .mk k n s (rdL x) from rfl] at hz |-
   generalize rdL x = l at hz |-
   have hz : zk3 (N + 1) (.mk k n s l) := hz
   refine za2 (T := tt) (S := fun L => zao [zlb N L]) (lo := fun L => yqx L l) (lb := noA) 5 (fn := Tryz.f148) (xs := fun L => [.agg [.int .i64 k, .int .u64 n, .str s, cvL L l]]) rfl rfl (by kernel_rfl) (by kernel_rfl) rfl zab
     (za3 ⟨ih, trivial⟩) (by kernel_rfl) ?_
   intro L P' Q' hL hP hQ
   (cbv; try simp only [syT, true_and, and_true])
   refine ⟨fun h1 => ?_, fun h1 => ⟨fun h2 => ?_, fun h2 => ⟨fun h7 => ⟨fun h8 => ?_, fun h8 => ?_⟩, fun h7 => ?_⟩⟩⟩
   · (subst hL; subst hQ; simp only [L2, L3, std] at *; try simp only [syS, reduceCtorEq, Int.reduceToNat, Int.reduceAdd, Int.reduceSub] at *)
     rw [zbo fun h => by omega]
   · (subst hL; subst hQ; simp only [L2, L3, std] at *; try simp only [syS, reduceCtorEq, Int.reduceToNat, Int.reduceAdd, Int.reduceSub] at *)
     rw [zbo fun h => by omega]
   · (subst hL; subst hQ; simp only [L2, L3, std] at *; try simp only [syS, reduceCtorEq, Int.reduceToNat, Int.reduceAdd, Int.reduceSub] at *)
     rw [zbo fun h => h8 (h.2.2.1 h7)]
   · refine ⟨fun h3 => ⟨fun h4 => ?_, fun h4 => ?_⟩, fun h3 => ?_⟩
     · (subst hL; subst hQ; simp only [L2, L3, std] at *; try simp only [syS, reduceCtorEq, Int.reduceToNat, Int.reduceAdd, Int.reduceSub] at *)
       rw [zbo fun h => h4 (h.2.2.2.1 h3)]
     · refine ⟨fun h5 => ⟨fun h6 => ?_, fun h6 => ?_⟩, fun h5 => ?_⟩
       · (subst hL; subst hQ; simp only [L2, L3, std] at *; try simp only [syS, reduceCtorEq, Int.reduceToNat, Int.reduceAdd, Int.reduceSub] at *)
         rw [zbo fun h => by
           have := h.2.2.2.2.1 h5
           rw [this] at h6
           exact absurd h6 (by simp [lenL])]
       · refine ⟨⟨0, ?_⟩, fun i hi => ?_⟩
         · (cbv; try simp only [syT, true_and, and_true])
           (subst hL; subst hQ; simp only [L2, L3, std] at *; try simp only [syS, reduceCtorEq, Int.reduceToNat, Int.reduceAdd, Int.reduceSub] at *)
           exact ⟨Nat.zero_le _, fun j hj => by omega⟩
         · cbv at hi
           (cbv; try simp only [syT, true_and, and_true])
           refine ⟨fun hlt => ⟨?_, ⟨?_, ?_⟩, fun hb => ?_, fun hb => ⟨i + 1, ?_⟩⟩, fun hge => ?_⟩
           · (subst hL; subst hQ; simp only [L2, L3, std] at *; try simp only [syS, reduceCtorEq, Int.reduceToNat, Int.reduceAdd, Int.reduceSub] at *)
             omega
           · (subst hL; subst hQ; simp only [L2, L3, std] at *; try simp only [syS, reduceCtorEq, Int.reduceToNat, Int.reduceAdd, Int.reduceSub] at *)
             exact (zf1 _).2
           · (subst hL; subst hQ; simp only [L2, L3, std] at *; try simp only [syS, reduceCtorEq, Int.reduceToNat, Int.reduceAdd, Int.reduceSub] at *)
             rw [zbd]
             rw [zaf] at hz
             exact zes hz.1 (by have : lenL l = l.length := rfl; omega)
           · (subst hL; subst hQ; simp only [L2, L3, std] at *; try simp only [syS, reduceCtorEq, Int.reduceToNat, Int.reduceAdd, Int.reduceSub] at *)
             rw [zai] at hb
             have : lenL l = l.length := rfl
             rw [zbo fun h => by
               have := (zau l).1 h.2.2.2.2.2 i (by omega)
               rw [hb] at this; cases this]
           · (cbv; try simp only [syT, true_and, and_true])
             (subst hL; subst hQ; simp only [L2, L3, std] at *; try simp only [syS, reduceCtorEq, Int.reduceToNat, Int.reduceAdd, Int.reduceSub] at *)
             rw [zai] at hb
             rw [zaf] at hz
             have : lenL l = l.length := rfl
             have := zdp l
             have h1 := hz.1.1
             have h2 := hz.1.2
             refine ⟨by omega, ⟨by omega, fun j hj => ?_⟩, by omega⟩
             by_cases e : j = i
             · rw [e]; exact hb
             · exact hi.2 j (by omega)
           · (subst hL; subst hQ; simp only [L2, L3, std] at *; try simp only [syS, reduceCtorEq, Int.reduceToNat, Int.reduceAdd, Int.reduceSub] at *)
             have : lenL l = l.length := rfl
             rw [(zd8 _ _ _ _).2 ⟨by omega, by omega, fun h => by first | assumption | omega, fun h => by first | assumption | omega, fun h => by first | omega | exact List.eq_nil_of_length_eq_zero (by omega), (zau l).2 fun j hj => hi.2 j (by omega)⟩]
       · refine ⟨⟨0, ?_⟩, fun i hi => ?_⟩
         · (cbv; try simp only [syT, true_and, and_true])
           (subst hL; subst hQ; simp only [L2, L3, std] at *; try simp only [syS, reduceCtorEq, Int.reduceToNat, Int.reduceAdd, Int.reduceSub] at *)
           exact ⟨Nat.zero_le _, fun j hj => by omega⟩
         · cbv at hi
           (cbv; try simp only [syT, true_and, and_true])
           refine ⟨fun hlt => ⟨?_, ⟨?_, ?_⟩, fun hb => ?_, fun hb => ⟨i + 1, ?_⟩⟩, fun hge => ?_⟩
           · (subst hL; subst hQ; simp only [L2, L3, std] at *; try simp only [syS, reduceCtorEq, Int.reduceToNat, Int.reduceAdd, Int.reduceSub] at *)
             omega
           · (subst hL; subst hQ; simp only [L2, L3, std] at *; try simp only [syS, reduceCtorEq, Int.reduceToNat, Int.reduceAdd, Int.reduceSub] at *)
             exact (zf1 _).2
           · (subst hL; subst hQ; simp only [L2, L3, std] at *; try simp only [syS, reduceCtorEq, Int.reduceToNat, Int.reduceAdd, Int.reduceSub] at *)
             rw [zbd]
             rw [zaf] at hz
             exact zes hz.1 (by have : lenL l = l.length := rfl; omega)
           · (subst hL; subst hQ; simp only [L2, L3, std] at *; try simp only [syS, reduceCtorEq, Int.reduceToNat, Int.reduceAdd, Int.reduceSub] at *)
             rw [zai] at hb
             have : lenL l = l.length := rfl
             rw [zbo fun h => by
               have := (zau l).1 h.2.2.2.2.2 i (by omega)
               rw [hb] at this; cases this]
           · (cbv; try simp only [syT, true_and, and_true])
             (subst hL; subst hQ; simp only [L2, L3, std] at *; try simp only [syS, reduceCtorEq, Int.reduceToNat, Int.reduceAdd, Int.reduceSub] at *)
             rw [zai] at hb
             rw [zaf] at hz
             have : lenL l = l.length := rfl
             have := zdp l
             have h1 := hz.1.1
             have h2 := hz.1.2
             refine ⟨by omega, ⟨by omega, fun j hj => ?_⟩, by omega⟩
             by_cases e : j = i
             · rw [e]; exact hb
             · exact hi.2 j (by omega)
           · (subst hL; subst hQ; simp only [L2, L3, std] at *; try simp only [syS, reduceCtorEq, Int.reduceToNat, Int.reduceAdd, Int.reduceSub] at *)
             have : lenL l = l.length := rfl
             rw [(zd8 _ _ _ _).2 ⟨by omega, by omega, fun h => by first | assumption | omega, fun h => by first | assumption | omega, fun h => by first | omega | exact List.eq_nil_of_length_eq_zero (by omega), (zau l).2 fun j hj => hi.2 j (by omega)⟩]
     · refine ⟨fun h5 => ⟨fun h6 => ?_, fun h6 => ?_⟩, fun h5 => ?_⟩
       · (subst hL; subst hQ; simp only [L2, L3, std] at *; try simp only [syS, reduceCtorEq, Int.reduceToNat, Int.reduceAdd, Int.reduceSub] at *)
         rw [zbo fun h => by
           have := h.2.2.2.2.1 h5
           rw [this] at h6
           exact absurd h6 (by simp [lenL])]
       · refine ⟨⟨0, ?_⟩, fun i hi => ?_⟩
         · (cbv; try simp only [syT, true_and, and_true])
           (subst hL; subst hQ; simp only [L2, L3, std] at *; try simp only [syS, reduceCtorEq, Int.reduceToNat, Int.reduceAdd, Int.reduceSub] at *)
           exact ⟨Nat.zero_le _, fun j hj => by omega⟩
         · cbv at hi
           (cbv; try simp only [syT, true_and, and_true])
           refine ⟨fun hlt => ⟨?_, ⟨?_, ?_⟩, fun hb => ?_, fun hb => ⟨i + 1, ?_⟩⟩, fun hge => ?_⟩
           · (subst hL; subst hQ; simp only [L2, L3, std] at *; try simp only [syS, reduceCtorEq, Int.reduceToNat, Int.reduceAdd, Int.reduceSub] at *)
             omega
           · (subst hL; subst hQ; simp only [L2, L3, std] at *; try simp only [syS, reduceCtorEq, Int.reduceToNat, Int.reduceAdd, Int.reduceSub] at *)
             exact (zf1 _).2
           · (subst hL; subst hQ; simp only [L2, L3, std] at *; try simp only [syS, reduceCtorEq, Int.reduceToNat, Int.reduceAdd, Int.reduceSub] at *)
             rw [zbd]
             rw [zaf] at hz
             exact zes hz.1 (by have : lenL l = l.length := rfl; omega)
           · (subst hL; subst hQ; simp only [L2, L3, std] at *; try simp only [syS, reduceCtorEq, Int.reduceToNat, Int.reduceAdd, Int.reduceSub] at *)
             rw [zai] at hb
             have : lenL l = l.length := rfl
             rw [zbo fun h => by
               have := (zau l).1 h.2.2.2.2.2 i (by omega)
               rw [hb] at this; cases this]
           · (cbv; try simp only [syT, true_and, and_true])
             (subst hL; subst hQ; simp only [L2, L3, std] at *; try simp only [syS, reduceCtorEq, Int.reduceToNat, Int.reduceAdd, Int.reduceSub] at *)
             rw [zai] at hb
             rw [zaf] at hz
             have : lenL l = l.length := rfl
             have := zdp l
             have h1 := hz.1.1
             have h2 := hz.1.2
             refine ⟨by omega, ⟨by omega, fun j hj => ?_⟩, by omega⟩
             by_cases e : j = i
             · rw [e]; exact hb
             · exact hi.2 j (by omega)
           · (subst hL; subst hQ; simp only [L2, L3, std] at *; try simp only [syS, reduceCtorEq, Int.reduceToNat, Int.reduceAdd, Int.reduceSub] at *)
             have : lenL l = l.length := rfl
             rw [(zd8 _ _ _ _).2 ⟨by omega, by omega, fun h => by first | assumption | omega, fun h => by first | assumption | omega, fun h => by first | omega | exact List.eq_nil_of_length_eq_zero (by omega), (zau l).2 fun j hj => hi.2 j (by omega)⟩]
       · refine ⟨⟨0, ?_⟩, fun i hi => ?_⟩
         · (cbv; try simp only [syT, true_and, and_true])
           (subst hL; subst hQ; simp only [L2, L3, std] at *; try simp only [syS, reduceCtorEq, Int.reduceToNat, Int.reduceAdd, Int.reduceSub] at *)
           exact ⟨Nat.zero_le _, fun j hj => by omega⟩
         · cbv at hi
           (cbv; try simp only [syT, true_and, and_true])
           refine ⟨fun hlt => ⟨?_, ⟨?_, ?_⟩, fun hb => ?_, fun hb => ⟨i + 1, ?_⟩⟩, fun hge => ?_⟩
           · (subst hL; subst hQ; simp only [L2, L3, std] at *; try simp only [syS, reduceCtorEq, Int.reduceToNat, Int.reduceAdd, Int.reduceSub] at *)
             omega
           · (subst hL; subst hQ; simp only [L2, L3, std] at *; try simp only [syS, reduceCtorEq, Int.reduceToNat, Int.reduceAdd, Int.reduceSub] at *)
             exact (zf1 _).2
           · (subst hL; subst hQ; simp only [L2, L3, std] at *; try simp only [syS, reduceCtorEq, Int.reduceToNat, Int.reduceAdd, Int.reduceSub] at *)
             rw [zbd]
             rw [zaf] at hz
             exact zes hz.1 (by have : lenL l = l.length := rfl; omega)
           · (subst hL; subst hQ; simp only [L2, L3, std] at *; try simp only [syS, reduceCtorEq, Int.reduceToNat, Int.reduceAdd, Int.reduceSub] at *)
             rw [zai] at hb
             have : lenL l = l.length := rfl
             rw [zbo fun h => by
               have := (zau l).1 h.2.2.2.2.2 i (by omega)
               rw [hb] at this; cases this]
           · (cbv; try simp only [syT, true_and, and_true])
             (subst hL; subst hQ; simp only [L2, L3, std] at *; try simp only [syS, reduceCtorEq, Int.reduceToNat, Int.reduceAdd, Int.reduceSub] at *)
             rw [zai] at hb
             rw [zaf] at hz
             have : lenL l = l.length := rfl
             have := zdp l
             have h1 := hz.1.1
             have h2 := hz.1.2
             refine ⟨by omega, ⟨by omega, fun j hj => ?_⟩, by omega⟩
             by_cases e : j = i
             · rw [e]; exact hb
             · exact hi.2 j (by omega)
           · (subst hL; subst hQ; simp only [L2, L3, std] at *; try simp only [syS, reduceCtorEq, Int.reduceToNat, Int.reduceAdd, Int.reduceSub] at *)
             have : lenL l = l.length := rfl
             rw [(zd8 _ _ _ _).2 ⟨by omega, by omega, fun h => by first | assumption | omega, fun h => by first | assumption | omega, fun h => by first | omega | exact List.eq_nil_of_length_eq_zero (by omega), (zau l).2 fun j hj => hi.2 j (by omega)⟩]
   · refine ⟨fun h3 => ⟨fun h4 => ?_, fun h4 => ?_⟩, fun h3 => ?_⟩
     · (subst hL; subst hQ; simp only [L2, L3, std] at *; try simp only [syS, reduceCtorEq, Int.reduceToNat, Int.reduceAdd, Int.reduceSub] at *)
       rw [zbo fun h => h4 (h.2.2.2.1 h3)]
     · refine ⟨fun h5 => ⟨fun h6 => ?_, fun h6 => ?_⟩, fun h5 => ?_⟩
       · (subst hL; subst hQ; simp only [L2, L3, std] at *; try simp only [syS, reduceCtorEq, Int.reduceToNat, Int.reduceAdd, Int.reduceSub] at *)
         rw [zbo fun h => by
           have := h.2.2.2.2.1 h5
           rw [this] at h6
           exact absurd h6 (by simp [lenL])]
       · refine ⟨⟨0, ?_⟩, fun i hi => ?_⟩
         · (cbv; try simp only [syT, true_and, and_true])
           (subst hL; subst hQ; simp only [L2, L3, std] at *; try simp only [syS, reduceCtorEq, Int.reduceToNat, Int.reduceAdd, Int.reduceSub] at *)
           exact ⟨Nat.zero_le _, fun j hj => by omega⟩
         · cbv at hi
           (cbv; try simp only [syT, true_and, and_true])
           refine ⟨fun hlt => ⟨?_, ⟨?_, ?_⟩, fun hb => ?_, fun hb => ⟨i + 1, ?_⟩⟩, fun hge => ?_⟩
           · (subst hL; subst hQ; simp only [L2, L3, std] at *; try simp only [syS, reduceCtorEq, Int.reduceToNat, Int.reduceAdd, Int.reduceSub] at *)
             omega
           · (subst hL; subst hQ; simp only [L2, L3, std] at *; try simp only [syS, reduceCtorEq, Int.reduceToNat, Int.reduceAdd, Int.reduceSub] at *)
             exact (zf1 _).2
           · (subst hL; subst hQ; simp only [L2, L3, std] at *; try simp only [syS, reduceCtorEq, Int.reduceToNat, Int.reduceAdd, Int.reduceSub] at *)
             rw [zbd]
             rw [zaf] at hz
             exact zes hz.1 (by have : lenL l = l.length := rfl; omega)
           · (subst hL; subst hQ; simp only [L2, L3, std] at *; try simp only [syS, reduceCtorEq, Int.reduceToNat, Int.reduceAdd, Int.reduceSub] at *)
             rw [zai] at hb
             have : lenL l = l.length := rfl
             rw [zbo fun h => by
               have := (zau l).1 h.2.2.2.2.2 i (by omega)
               rw [hb] at this; cases this]
           · (cbv; try simp only [syT, true_and, and_true])
             (subst hL; subst hQ; simp only [L2, L3, std] at *; try simp only [syS, reduceCtorEq, Int.reduceToNat, Int.reduceAdd, Int.reduceSub] at *)
             rw [zai] at hb
             rw [zaf] at hz
             have : lenL l = l.length := rfl
             have := zdp l
             have h1 := hz.1.1
             have h2 := hz.1.2
             refine ⟨by omega, ⟨by omega, fun j hj => ?_⟩, by omega⟩
             by_cases e : j = i
             · rw [e]; exact hb
             · exact hi.2 j (by omega)
           · (subst hL; subst hQ; simp only [L2, L3, std] at *; try simp only [syS, reduceCtorEq, Int.reduceToNat, Int.reduceAdd, Int.reduceSub] at *)
             have : lenL l = l.length := rfl
             rw [(zd8 _ _ _ _).2 ⟨by omega, by omega, fun h => by first | assumption | omega, fun h => by first | assumption | omega, fun h => by first | omega | exact List.eq_nil_of_length_eq_zero (by omega), (zau l).2 fun j hj => hi.2 j (by omega)⟩]
       · refine ⟨⟨0, ?_⟩, fun i hi => ?_⟩
         · (cbv; try simp only [syT, true_and, and_true])
           (subst hL; subst hQ; simp only [L2, L3, std] at *; try simp only [syS, reduceCtorEq, Int.reduceToNat, Int.reduceAdd, Int.reduceSub] at *)
           exact ⟨Nat.zero_le _, fun j hj => by omega⟩
         · cbv at hi
           (cbv; try simp only [syT, true_and, and_true])
           refine ⟨fun hlt => ⟨?_, ⟨?_, ?_⟩, fun hb => ?_, fun hb => ⟨i + 1, ?_⟩⟩, fun hge => ?_⟩
           · (subst hL; subst hQ; simp only [L2, L3, std] at *; try simp only [syS, reduceCtorEq, Int.reduceToNat, Int.reduceAdd, Int.reduceSub] at *)
             omega
           · (subst hL; subst hQ; simp only [L2, L3, std] at *; try simp only [syS, reduceCtorEq, Int.reduceToNat, Int.reduceAdd, Int.reduceSub] at *)
             exact (zf1 _).2
           · (subst hL; subst hQ; simp only [L2, L3, std] at *; try simp only [syS, reduceCtorEq, Int.reduceToNat, Int.reduceAdd, Int.reduceSub] at *)
             rw [zbd]
             rw [zaf] at hz
             exact zes hz.1 (by have : lenL l = l.length := rfl; omega)
           · (subst hL; subst hQ; simp only [L2, L3, std] at *; try simp only [syS, reduceCtorEq, Int.reduceToNat, Int.reduceAdd, Int.reduceSub] at *)
             rw [zai] at hb
             have : lenL l = l.length := rfl
             rw [zbo fun h => by
               have := (zau l).1 h.2.2.2.2.2 i (by omega)
               rw [hb] at this; cases this]
           · (cbv; try simp only [syT, true_and, and_true])
             (subst hL; subst hQ; simp only [L2, L3, std] at *; try simp only [syS, reduceCtorEq, Int.reduceToNat, Int.reduceAdd, Int.reduceSub] at *)
             rw [zai] at hb
             rw [zaf] at hz
             have : lenL l = l.length := rfl
             have := zdp l
             have h1 := hz.1.1
             have h2 := hz.1.2
             refine ⟨by omega, ⟨by omega, fun j hj => ?_⟩, by omega⟩
             by_cases e : j = i
             · rw [e]; exact hb
             · exact hi.2 j (by omega)
           · (subst hL; subst hQ; simp only [L2, L3, std] at *; try simp only [syS, reduceCtorEq, Int.reduceToNat, Int.reduceAdd, Int.reduceSub] at *)
             have : lenL l = l.length := rfl
             rw [(zd8 _ _ _ _).2 ⟨by omega, by omega, fun h => by first | assumption | omega, fun h => by first | assumption | omega, fun h => by first | omega | exact List.eq_nil_of_length_eq_zero (by omega), (zau l).2 fun j hj => hi.2 j (by omega)⟩]
     · refine ⟨fun h5 => ⟨fun h6 => ?_, fun h6 => ?_⟩, fun h5 => ?_⟩
       · (subst hL; subst hQ; simp only [L2, L3, std] at *; try simp only [syS, reduceCtorEq, Int.reduceToNat, Int.reduceAdd, Int.reduceSub] at *)
         rw [zbo fun h => by
           have := h.2.2.2.2.1 h5
           rw [this] at h6
           exact absurd h6 (by simp [lenL])]
       · refine ⟨⟨0, ?_⟩, fun i hi => ?_⟩
         · (cbv; try simp only [syT, true_and, and_true])
           (subst hL; subst hQ; simp only [L2, L3, std] at *; try simp only [syS, reduceCtorEq, Int.reduceToNat, Int.reduceAdd, Int.reduceSub] at *)
           exact ⟨Nat.zero_le _, fun j hj => by omega⟩
         · cbv at hi
           (cbv; try simp only [syT, true_and, and_true])
           refine ⟨fun hlt => ⟨?_, ⟨?_, ?_⟩, fun hb => ?_, fun hb => ⟨i + 1, ?_⟩⟩, fun hge => ?_⟩
           · (subst hL; subst hQ; simp only [L2, L3, std] at *; try simp only [syS, reduceCtorEq, Int.reduceToNat, Int.reduceAdd, Int.reduceSub] at *)
             omega
           · (subst hL; subst hQ; simp only [L2, L3, std] at *; try simp only [syS, reduceCtorEq, Int.reduceToNat, Int.reduceAdd, Int.reduceSub] at *)
             exact (zf1 _).2
           · (subst hL; subst hQ; simp only [L2, L3, std] at *; try simp only [syS, reduceCtorEq, Int.reduceToNat, Int.reduceAdd, Int.reduceSub] at *)
             rw [zbd]
             rw [zaf] at hz
             exact zes hz.1 (by have : lenL l = l.length := rfl; omega)
           · (subst hL; subst hQ; simp only [L2, L3, std] at *; try simp only [syS, reduceCtorEq, Int.reduceToNat, Int.reduceAdd, Int.reduceSub] at *)
             rw [zai] at hb
             have : lenL l = l.length := rfl
             rw [zbo fun h => by
               have := (zau l).1 h.2.2.2.2.2 i (by omega)
               rw [hb] at this; cases this]
           · (cbv; try simp only [syT, true_and, and_true])
             (subst hL; subst hQ; simp only [L2, L3, std] at *; try simp only [syS, reduceCtorEq, Int.reduceToNat, Int.reduceAdd, Int.reduceSub] at *)
             rw [zai] at hb
             rw [zaf] at hz
             have : lenL l = l.length := rfl
             have := zdp l
             have h1 := hz.1.1
             have h2 := hz.1.2
             refine ⟨by omega, ⟨by omega, fun j hj => ?_⟩, by omega⟩
             by_cases e : j = i
             · rw [e]; exact hb
             · exact hi.2 j (by omega)
           · (subst hL; subst hQ; simp only [L2, L3, std] at *; try simp only [syS, reduceCtorEq, Int.reduceToNat, Int.reduceAdd, Int.reduceSub] at *)
             have : lenL l = l.length := rfl
             rw [(zd8 _ _ _ _).2 ⟨by omega, by omega, fun h => by first | assumption | omega, fun h => by first | assumption | omega, fun h => by first | omega | exact List.eq_nil_of_length_eq_zero (by omega), (zau l).2 fun j hj => hi.2 j (by omega)⟩]
       · refine ⟨⟨0, ?_⟩, fun i hi => ?_⟩
         · (cbv; try simp only [syT, true_and, and_true])
           (subst hL; subst hQ; simp only [L2, L3, std] at *; try simp only [syS, reduceCtorEq, Int.reduceToNat, Int.reduceAdd, Int.reduceSub] at *)
           exact ⟨Nat.zero_le _, fun j hj => by omega⟩
         · cbv at hi
           (cbv; try simp only [syT, true_and, and_true])
           refine ⟨fun hlt => ⟨?_, ⟨?_, ?_⟩, fun hb => ?_, fun hb => ⟨i + 1, ?_⟩⟩, fun hge => ?_⟩
           · (subst hL; subst hQ; simp only [L2, L3, std] at *; try simp only [syS, reduceCtorEq, Int.reduceToNat, Int.reduceAdd, Int.reduceSub] at *)
             omega
           · (subst hL; subst hQ; simp only [L2, L3, std] at *; try simp only [syS, reduceCtorEq, Int.reduceToNat, Int.reduceAdd, Int.reduceSub] at *)
             exact (zf1 _).2
           · (subst hL; subst hQ; simp only [L2, L3, std] at *; try simp only [syS, reduceCtorEq, Int.reduceToNat, Int.reduceAdd, Int.reduceSub] at *)
             rw [zbd]
             rw [zaf] at hz
             exact zes hz.1 (by have : lenL l = l.length := rfl; omega)
           · (subst hL; subst hQ; simp only [L2, L3, std] at *; try simp only [syS, reduceCtorEq, Int.reduceToNat, Int.reduceAdd, Int.reduceSub] at *)
             rw [zai] at hb
             have : lenL l = l.length := rfl
             rw [zbo fun h => by
               have := (zau l).1 h.2.2.2.2.2 i (by omega)
               rw [hb] at this; cases this]
           · (cbv; try simp only [syT, true_and, and_true])
             (subst hL; subst hQ; simp only [L2, L3, std] at *; try simp only [syS, reduceCtorEq, Int.reduceToNat, Int.reduceAdd, Int.reduceSub] at *)
             rw [zai] at hb
             rw [zaf] at hz
             have : lenL l = l.length := rfl
             have := zdp l
             have h1 := hz.1.1
             have h2 := hz.1.2
             refine ⟨by omega, ⟨by omega, fun j hj => ?_⟩, by omega⟩
             by_cases e : j = i
             · rw [e]; exact hb
             · exact hi.2 j (by omega)
           · (subst hL; subst hQ; simp only [L2, L3, std] at *; try simp only [syS, reduceCtorEq, Int.reduceToNat, Int.reduceAdd, Int.reduceSub] at *)
             have : lenL l = l.length := rfl
             rw [(zd8 _ _ _ _).2 ⟨by omega, by omega, fun h => by first | assumption | omega, fun h => by first | assumption | omega, fun h => by first | omega | exact List.eq_nil_of_length_eq_zero (by omega), (zau l).2 fun j hj => hi.2 j (by omega)⟩]
end Sy
end Go.Proofs.YthppjaoicibeiaaGreatDoor
