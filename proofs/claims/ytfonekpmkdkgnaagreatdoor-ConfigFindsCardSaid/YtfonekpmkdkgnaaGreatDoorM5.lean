/-strings.Index, Count (of one byte), Compare, Join: the kit's contracts as summaries; Cut, Split; a text parted by a byte. strconv.FormatUint at base 10, out of the kit's contracts of its parts; and what stands between these and the texts behind.-/
import Derived.Test.YtfonekpmkdkgnaaGreatDoorM4
import Derived.Test.YtfonekpmkdkgnaaGreatDoorShelf
import Derived.Shelf.Strconv.Itoa3
import Derived.Lib.AppendIntMem
import Derived.Lib.Walk
import Derived.WalkKit
import Derived.BigCall
import Derived.BigGuard
import Derived.Lib.AtoiErrMem
import Derived.Lib.ParseIntBCases
namespace Go.Proofs.YtfonekpmkdkgnaaGreatDoor
namespace Sy
open Go Go.RowKit
set_option maxRecDepth 100000
set_option linter.unusedSimpArgs false
set_option linter.unusedVariables false
def zb5 (c : UInt8) : List UInt8 -> List (List UInt8)
 | [] => [[]]
 | x :: s => if x = c then [] :: zb5 c s else match zb5 c s with
   | y :: r => (x :: y) :: r
   | [] => [[x]]
theorem zql (c : UInt8) : ∀ s, zb5 c s ≠ []
 | [] => by simp [zb5]
 | x :: s => by
   unfold zb5
   split
   · simp
   · split <;> simp
theorem zlp {c : UInt8} : ∀ {s : List UInt8} {m : Nat}, (∀ k, k < m -> s[k]? ≠ some c) -> s[m]? = some c -> zb5 c s = s.take m :: zb5 c (s.drop (m + 1))
 | [], m, _, h => by simp at h
 | x :: s, 0, _, h => by
   simp at h; subst h
   simp [zb5]
 | x :: s, m + 1, h0, h => by
   have hx : x ≠ c := by
     have := h0 0 (by omega)
     intro e; subst e; simp at this
   have ih := zlp (s := s) (m := m) (fun k hk => by have := h0 (k + 1) (by omega); simpa using this) (by simpa using h)
   rw [zb5, if_neg hx, ih]
   simp
theorem zgp {c : UInt8} : ∀ {s : List UInt8}, (∀ k : Nat, s[k]? ≠ some c) -> zb5 c s = [s]
 | [], _ => rfl
 | x :: s, h0 => by
   have hx : x ≠ c := by
     have := h0 0
     intro e; subst e; simp at this
   have ih := zgp (s := s) (fun k => by have := h0 (k + 1); simpa using this)
   rw [zb5, if_neg hx, ih]
theorem zbi (c : UInt8) : ∀ s : List UInt8, (zb5 c s).length = s.count c + 1
 | [] => by simp [zb5]
 | x :: s => by
   have ih := zbi c s
   unfold zb5
   by_cases hx : x = c
   · rw [if_pos hx, List.length_cons, ih, hx, List.count_cons_self]
   · rw [if_neg hx, List.count_cons_of_ne (fun e => hx e)]
     cases hs : zb5 c s with
     | nil => exact absurd hs (zql c s)
     | cons y r => rw [hs] at ih; simpa using ih
theorem ycs {s : List UInt8} {c : UInt8} (h : Lib.indexByte s c < 0) : ∀ k : Nat, s[k]? ≠ some c := by
 have := Lib.indexByte_ge s c
 exact Lib.indexByte_none (by omega)
theorem zrm {s : List UInt8} {c : UInt8} (h : ¬ Lib.indexByte s c < 0) : s[(Lib.indexByte s c).toNat]? = some c /\ (∀ k, k < (Lib.indexByte s c).toNat -> s[k]? ≠ some c) /\ (Lib.indexByte s c).toNat < s.length := by
 obtain ⟨o, ho⟩ : ∃ o : Nat, Lib.indexByte s c = o := ⟨(Lib.indexByte s c).toNat, by omega⟩
 have h1 := Lib.indexByte_some ho
 have e : (Lib.indexByte s c).toNat = o := by omega
 rw [e]
 exact ⟨h1.1, h1.2, (List.getElem?_eq_some_iff.1 h1.1).1⟩
theorem yr5 (s : List UInt8) (c : UInt8) : -1 <= Lib.indexByte s c /\ Lib.indexByte s c <= s.length := by
 have h0 := Lib.indexByte_ge s c
 by_cases h : Lib.indexByte s c < 0
 · omega
 · have := (zrm h).2.2; omega
def by1 (sep : List UInt8) : UInt8 := sep.headD 0
def zth (sep : List UInt8) : Prop := sep.length = 1
theorem ztg {sep : List UInt8} (h : zth sep) : sep = [by1 sep] := by
 match sep, h with
 | [c], _ => rfl
def zkd (s sep : List UInt8) : Int := Lib.indexByte s (by1 sep)
def cntZ (s sep : List UInt8) : Int := s.count (by1 sep)
def zlo (s sep : List UInt8) : List (List UInt8) := zb5 (by1 sep) s
def yh0 (l : List (List UInt8)) : Nat := l.length
def lstS (L : za9) (l : List (List UInt8)) : AV := .lst 1 (L yh0 l) (fun i _ => .str (L2 L zxy l i))
def ym7 (L : za9) : zdq := (168, fun xs => match xs with | [.str s, .str sep] => some (L zth sep, .int .i64 (L2 L zkd s sep)) | _ => none)
def ymb (L : za9) : zdq := (165, fun xs => match xs with | [.str s, .str sep] => some (L zth sep, .int .i64 (L2 L zkd s sep)) | _ => none)
def yn9 (L : za9) : zdq := (167, fun xs => match xs with | [.str s, .str sep] => some (L zth sep, .int .i64 (L2 L cntZ s sep)) | _ => none)
theorem yh9 : zbp Tryz.prog (ym7 std) := by
 intro xs p r h hp
 dsimp only [ym7] at h |-
 split at h <;> cases h
 try simp only [L2, L3, std] at hp |-
 rename_i s sep
 have h1 := ztg (show zth sep from hp)
 rw [h1]
 refine zep (fn := Tryz.f168) rfl rfl (by kernel_rfl) (yeg (zeh _) (zeh _)) (ym2 _ _) (fun w => (Tryz.strings_Index_one ⟨s.toArray⟩ (by1 sep) w).mono ?_)
 rintro e w' ⟨rfl, rfl⟩
 exact ⟨rfl, Below.refl _ _⟩
theorem yhc : zbp Tryz.prog (ymb std) := by
 intro xs p r h hp
 dsimp only [ymb] at h |-
 split at h <;> cases h
 try simp only [L2, L3, std] at hp |-
 rename_i s sep
 have h1 := ztg (show zth sep from hp)
 rw [h1]
 refine zep (fn := Tryz.f165) rfl rfl (by kernel_rfl) (yeg (zeh _) (zeh _)) (ym2 _ _) (fun w => (Tryz.stringslite_Index_one ⟨s.toArray⟩ (by1 sep) w).mono ?_)
 rintro e w' ⟨rfl, rfl⟩
 exact ⟨rfl, Below.refl _ _⟩
theorem yi9 : zbp Tryz.prog (yn9 std) := by
 intro xs p r h hp
 dsimp only [yn9] at h |-
 split at h <;> cases h
 try simp only [L2, L3, std] at hp |-
 rename_i s sep
 have h1 := ztg (show zth sep from hp)
 rw [h1]
 refine zep (fn := Tryz.f167) rfl rfl (by kernel_rfl) (yeg (zeh _) (zeh _)) (ym2 _ _) (fun w => (Tryz.strings_Count_one ⟨s.toArray⟩ (by1 sep) w).mono ?_)
 rintro e w' ⟨rfl, rfl⟩
 exact ⟨rfl, Below.refl _ _⟩
def yi7 (s sep : List UInt8) : List UInt8 := if zkd s sep < 0 then s else s.take (zkd s sep).toNat
def ydn (s sep : List UInt8) : List UInt8 := if zkd s sep < 0 then [] else s.drop ((zkd s sep).toNat + 1)
def yrr (s sep : List UInt8) : Bool := decide (0 <= zkd s sep)
def ydl (L : za9) : zdq := (143, fun xs => match xs with | [.str s, .str sep] => some (L zth sep /\ L2 L upto 1000000000 s, .tup [.str (L2 L yi7 s sep), .str (L2 L ydn s sep), .bool (L2 L yrr s sep)]) | _ => none)
def yn6 (L : za9) : zdq := (123, fun xs => match xs with | [.str s, .str sep] => some (L zth sep /\ L2 L upto 1000000000 s, .tup [.str (L2 L yi7 s sep), .str (L2 L ydn s sep), .bool (L2 L yrr s sep)]) | _ => none)
theorem ydm : zbp Tryz.prog (ydl std) := by
 intro xs p r h hp
 dsimp only [ydl] at h |-
 split at h <;> cases h
 try simp only [L2, L3, std] at hp |-
 rename_i s sep
 obtain ⟨p1, p2⟩ : zth sep /\ s.length <= 1000000000 := hp
 refine zaw (T := tt) (S := fun L => zb7 [ymb L]) (lo := noA) (lb := noA) 5 (fn := Tryz.f143) rfl rfl (by kernel_rfl) (by kernel_rfl) rfl zad (za7 ⟨yhc, trivial⟩) (by kernel_rfl) ?_
 (intro L P1 Q1 hL hP hQ; cbv; subst hL; simp only [L2, L3, std, syT]; subst hQ)
 (simp only [syS, reduceCtorEq, Int.reduceToNat, Int.reduceAdd, Int.reduceSub])
 have hl := yr5 s (by1 sep)
 refine ⟨p1, fun h => ?_, fun h => ?_⟩
 · have := (zrm (c := by1 sep) (s := s) (by show ¬ zkd s sep < 0; omega)).2.2
   have e0 : ¬ zkd s sep < 0 := by omega
   have e1 : (sep.length : Int) = 1 := by rw [p1]; rfl
   have hl : -1 <= zkd s sep /\ zkd s sep <= s.length := hl
   have this : (zkd s sep).toNat < s.length := this
   rw [e1, show (zkd s sep + 1 + 9223372036854775808) % 18446744073709551616 - 9223372036854775808 = zkd s sep + 1 by omega]
   refine ⟨by omega, by omega, (if_neg e0).symm, ?_, (decide_eq_true h).symm⟩
   rw [ydn, if_neg e0, show (zkd s sep + 1).toNat = (zkd s sep).toNat + 1 by omega]
 · exact ⟨(if_pos (by omega)).symm, (if_pos (by omega)).symm, (decide_eq_false (by omega)).symm⟩
theorem yi4 : zbp Tryz.prog (yn6 std) := by
 intro xs p r h hp
 dsimp only [yn6] at h |-
 split at h <;> cases h
 try simp only [L2, L3, std] at hp |-
 rename_i s sep
 obtain ⟨p1, p2⟩ : zth sep /\ s.length <= 1000000000 := hp
 refine zaw (T := tt) (S := fun L => zb7 [ydl L]) (lo := noA) (lb := noA) 5 (fn := Tryz.f123) rfl rfl (by kernel_rfl) (by kernel_rfl) rfl zad (za7 ⟨ydm, trivial⟩) (by kernel_rfl) ?_
 (intro L P1 Q1 hL hP hQ; cbv; subst hL; simp only [L2, L3, std, syT]; subst hQ)
 (simp only [syS, reduceCtorEq, Int.reduceToNat, Int.reduceAdd, Int.reduceSub])
 exact ⟨p1, p2⟩
def zfa (c : UInt8) (s : List UInt8) : Nat -> List UInt8
 | 0 => s
 | i + 1 => (zfa c s i).drop ((Lib.indexByte (zfa c s i) c).toNat + 1)
theorem zhg (c : UInt8) (s : List UInt8) : ∀ i, i <= s.count c -> zb5 c (zfa c s i) = (zb5 c s).drop i /\ (zfa c s i).length <= s.length
 | 0, _ => by simp [zfa]
 | i + 1, h => by
   obtain ⟨ih, hl⟩ := zhg c s i (by omega)
   have hlen := congrArg List.length ih
   rw [zbi, List.length_drop, zbi] at hlen
   have hn : ¬ Lib.indexByte (zfa c s i) c < 0 := by
     intro hn
     have h0 := zgp (ycs hn)
     have := congrArg List.length h0
     rw [zbi] at this
     simp at this
     omega
   obtain ⟨h1, h2, h3⟩ := zrm hn
   have e := zlp h2 h1
   rw [ih] at e
   have e2 := congrArg (List.drop 1) e
   rw [List.drop_drop, List.drop_succ_cons, List.drop_zero] at e2
   refine ⟨by rw [zfa, <- e2], ?_⟩
   rw [zfa, List.length_drop]; omega
theorem zp5 {c : UInt8} {s : List UInt8} {i : Nat} (h : i < s.count c) : 0 <= Lib.indexByte (zfa c s i) c /\ (Lib.indexByte (zfa c s i) c).toNat < (zfa c s i).length /\ zxy (zb5 c s) i = (zfa c s i).take (Lib.indexByte (zfa c s i) c).toNat := by
 obtain ⟨ih, hl⟩ := zhg c s i (by omega)
 have hlen := congrArg List.length ih
 rw [zbi, List.length_drop, zbi] at hlen
 have hn : ¬ Lib.indexByte (zfa c s i) c < 0 := by
   intro hn
   have h0 := zgp (ycs hn)
   have := congrArg List.length h0
   rw [zbi] at this
   simp at this
   omega
 obtain ⟨h1, h2, h3⟩ := zrm hn
 refine ⟨by omega, h3, ?_⟩
 have e := zlp h2 h1
 rw [ih] at e
 have hlt : i < (zb5 c s).length := by rw [zbi]; omega
 rw [zxy, List.getD_eq_getElem?_getD, List.getElem?_eq_getElem hlt]
 rw [List.drop_eq_getElem_cons hlt] at e
 exact (List.cons.inj e).1
theorem ybg (c : UInt8) (s : List UInt8) : zxy (zb5 c s) (s.count c) = zfa c s (s.count c) := by
 obtain ⟨ih, hl⟩ := zhg c s (s.count c) (Nat.le_refl _)
 have hlen := congrArg List.length ih
 rw [zbi, List.length_drop, zbi] at hlen
 have hc : (zfa c s (s.count c)).count c = 0 := by omega
 have h0 : zb5 c (zfa c s (s.count c)) = [zfa c s (s.count c)] := zgp (fun k hk => by
   have := List.count_pos_iff.2 (List.mem_of_getElem? hk)
   omega)
 rw [h0] at ih
 have hlt : s.count c < (zb5 c s).length := by rw [zbi]; omega
 rw [zxy, List.getD_eq_getElem?_getD, List.getElem?_eq_getElem hlt]
 rw [List.drop_eq_getElem_cons hlt] at ih
 exact (List.cons.inj ih).1.symm
def zgt (s sep : List UInt8) (i : Nat) : List UInt8 := zfa (by1 sep) s i
def zz0 (s sep : List UInt8) (i j : Nat) : List UInt8 := if j < i then zxy (zlo s sep) j else []
def cntB (s sep : List UInt8) : Nat := s.count (by1 sep)
theorem yrt (s sep : List UInt8) : cntB s sep <= s.length := List.count_le_length
def splA (L : za9) (s sep : List UInt8) : Nat -> St -> Option Ann := fun id st => match id with
 | 0 => some ⟨Nat, fun i => [(0, .str (L3 L zgt s sep i)), (10, .int .i64 (L zbh i)), (9, .sl 900 1 0 (L (fun n : Nat => n + 1) (L2 L cntB s sep))), (3, .int .i64 (L zbh (L2 L cntB s sep)))],
     fun i => [(900, .row 9 1 (L (fun n : Nat => n + 1) (L2 L cntB s sep)) (fun j _ => .str (L (L3 L zz0 s sep i) j)))], [1, 2], [],
     fun i => L3 L (fun s sep i => i <= cntB s sep) s sep i, fun i => L3 L (fun s sep i => cntB s sep - i) s sep i⟩
 | _ => none
theorem yjd (q : Nat) (v : List UInt8) (f : Nat -> List UInt8) (i j : Nat) (h : j < 1) : over std q 0 1 [.str v] (fun i _ => .str (f i)) i j = .str (if i = q then v else f i) := by
 have : j = 0 := by omega
 subst this
 rw [zl5, if_pos ⟨Nat.le_refl _, by omega⟩]
 by_cases h : i = q
 · subst h; simp [za3, zer, L3, std, zbb]
 · simp [zak h, zer, L3, std, zbb, h]
def nev (f : Nat) : zdq := (f, fun _ => some (False, .dead))
theorem yg9 (f : Nat) : zbp Tryz.prog (nev f) := by
 intro xs p r h hp
 cases h
 exact hp.elim
def ymf (L : za9) : zdq := (144, fun xs => match xs with
 | [.str s, .str sep, .int .i64 a, .int .i64 b] => some (L zth sep /\ L2 L upto 1000000000 s /\ L2 L (fun a b : Int => a = 0 /\ b = -1) a b, lstS L (L2 L zlo s sep))
 | _ => none)
theorem yhf : zbp Tryz.prog (ymf std) := by
 intro xs p r h hp
 dsimp only [ymf] at h |-
 split at h <;> cases h
 try simp only [L2, L3, std] at hp |-
 rename_i s sep a b
 obtain ⟨p1, p2, rfl, rfl⟩ : zth sep /\ s.length <= 1000000000 /\ a = 0 /\ b = -1 := hp
 refine zaw (T := tt) (S := fun L => zb7 [ym7 L, yn9 L, nev 166]) (lo := fun L => splA L s sep) (lb := noA) 5 (fn := Tryz.f144) rfl rfl (by kernel_rfl) (by kernel_rfl) rfl zad (za7 ⟨yh9, yi9, yg9 _, trivial⟩) (by kernel_rfl) ?_
 intro L P' Q' hL hP hQ
 (cbv; try simp only [syT, true_and, and_true])
 have hc : cntZ s sep = (cntB s sep : Int) := rfl
 have hle := yrt s sep
 have hsep : sep ≠ [] := fun e => by rw [e] at p1; cases p1
 refine ⟨fun h => ?_, fun h1 => ⟨fun h => ?_, fun h2 => ⟨fun h3 => ⟨?_, ?_, ⟨0, ?_⟩, fun i hi => ?_⟩, fun h3 => ?_⟩⟩⟩
 · (subst hL; subst hQ; simp only [L2, L3, std] at *; try simp only [syS, reduceCtorEq, Int.reduceToNat, Int.reduceAdd, Int.reduceSub] at *)
 · (subst hL; subst hQ; simp only [L2, L3, std] at *; try simp only [syS, reduceCtorEq, Int.reduceToNat, Int.reduceAdd, Int.reduceSub] at *)
   exact absurd h hsep
 · (subst hL; subst hQ; simp only [L2, L3, std] at *; try simp only [syS, reduceCtorEq, Int.reduceToNat, Int.reduceAdd, Int.reduceSub] at *)
   exact p1
 · (subst hL; subst hQ; simp only [L2, L3, std] at *; try simp only [syS, reduceCtorEq, Int.reduceToNat, Int.reduceAdd, Int.reduceSub] at *)
   rw [hc]
   omega
 · (cbv; try simp only [syT, true_and, and_true])
   (subst hL; subst hQ; simp only [L2, L3, std] at *; try simp only [syS, reduceCtorEq, Int.reduceToNat, Int.reduceAdd, Int.reduceSub] at *)
   rw [hc, show min (((cntB s sep : Nat) + 1 + 9223372036854775808 : Int) % 18446744073709551616 - 9223372036854775808) (((s.length : Nat) + 1 + 9223372036854775808 : Int) % 18446744073709551616 - 9223372036854775808) = (cntB s sep : Nat) + 1 by omega]
   refine ⟨⟨by omega, fun k j hk hj => ?_⟩, by omega, by omega, rfl, Nat.zero_le _⟩
   rw [zz0, if_neg (by omega)]
   match j, hj with
   | 0, _ => rfl
 · cbv at hi
   (cbv; try simp only [syT, true_and, and_true])
   refine ⟨fun h4 => ⟨?_, fun h5 => ?_, fun h5 => ⟨?_, ?_, ?_, i + 1, ?_⟩⟩, fun h4 => ⟨?_, ?_, ?_⟩⟩
   · (subst hL; subst hQ; simp only [L2, L3, std] at *; try simp only [syS, reduceCtorEq, Int.reduceToNat, Int.reduceAdd, Int.reduceSub] at *)
     exact p1
   · (subst hL; subst hQ; simp only [L2, L3, std] at *; try simp only [syS, reduceCtorEq, Int.reduceToNat, Int.reduceAdd, Int.reduceSub] at *)
     obtain ⟨r1, r2, r3⟩ := zp5 (c := by1 sep) (s := s) (i := i) (show i < cntB s sep by omega)
     exfalso
     have h5 : Lib.indexByte (zfa (by1 sep) s i) (by1 sep) < 0 := h5
     omega
   · (subst hL; subst hQ; simp only [L2, L3, std] at *; try simp only [syS, reduceCtorEq, Int.reduceToNat, Int.reduceAdd, Int.reduceSub] at *)
     obtain ⟨r1, r2, r3⟩ := zp5 (c := by1 sep) (s := s) (i := i) (show i < cntB s sep by omega)
     obtain ⟨q1, q2⟩ := zhg (by1 sep) s i hi
     have r1 : 0 <= zkd (zgt s sep i) sep := r1
     have r2 : (zkd (zgt s sep i) sep).toNat < (zgt s sep i).length := r2
     have q2 : (zgt s sep i).length <= s.length := q2
     omega
   · (subst hL; subst hQ; simp only [L2, L3, std] at *; try simp only [syS, reduceCtorEq, Int.reduceToNat, Int.reduceAdd, Int.reduceSub] at *)
     omega
   · (subst hL; subst hQ; simp only [L2, L3, std] at *; try simp only [syS, reduceCtorEq, Int.reduceToNat, Int.reduceAdd, Int.reduceSub] at *)
     obtain ⟨r1, r2, r3⟩ := zp5 (c := by1 sep) (s := s) (i := i) (show i < cntB s sep by omega)
     obtain ⟨q1, q2⟩ := zhg (by1 sep) s i hi
     have r1 : 0 <= zkd (zgt s sep i) sep := r1
     have r2 : (zkd (zgt s sep i) sep).toNat < (zgt s sep i).length := r2
     have q2 : (zgt s sep i).length <= s.length := q2
     have e1 : (sep.length : Int) = 1 := by rw [p1]; rfl
     omega
   · (cbv; try simp only [syT, true_and, and_true])
     (subst hL; subst hQ; simp only [L2, L3, std] at *; try simp only [syS, reduceCtorEq, Int.reduceToNat, Int.reduceAdd, Int.reduceSub] at *)
     obtain ⟨r1, r2, r3⟩ := zp5 (c := by1 sep) (s := s) (i := i) (show i < cntB s sep by omega)
     obtain ⟨q1, q2⟩ := zhg (by1 sep) s i hi
     have r1 : 0 <= zkd (zgt s sep i) sep := r1
     have r2 : (zkd (zgt s sep i) sep).toNat < (zgt s sep i).length := r2
     have q2 : (zgt s sep i).length <= s.length := q2
     have e1 : (sep.length : Int) = 1 := by rw [p1]; rfl
     refine ⟨fun k j hk hj => ?_, by omega, ?_, by omega, by omega⟩
     · rw [yjd _ _ _ _ _ hj]
       congr 1
       by_cases hki : k = i
       · subst hki
         rw [if_pos rfl, zz0, if_pos (by omega), show (zkd (zgt s sep k) sep + 0 + 9223372036854775808) % 18446744073709551616 - 9223372036854775808 = zkd (zgt s sep k) sep by omega]
         exact r3.symm
       · rw [if_neg hki, zz0, zz0]
         by_cases hlt : k < i
         · rw [if_pos hlt, if_pos (by omega)]
         · rw [if_neg hlt, if_neg (by omega)]
     · rw [e1, show ((zkd (zgt s sep i) sep + 1 + 9223372036854775808) % 18446744073709551616 - 9223372036854775808).toNat = (zkd (zgt s sep i) sep).toNat + 1 by omega]
       rfl
   · (subst hL; subst hQ; simp only [L2, L3, std] at *; try simp only [syS, reduceCtorEq, Int.reduceToNat, Int.reduceAdd, Int.reduceSub] at *)
     omega
   · (subst hL; subst hQ; simp only [L2, L3, std] at *; try simp only [syS, reduceCtorEq, Int.reduceToNat, Int.reduceAdd, Int.reduceSub] at *)
     omega
   · (subst hL; subst hQ; simp only [L2, L3, std] at *; try simp only [syS, reduceCtorEq, Int.reduceToNat, Int.reduceAdd, Int.reduceSub] at *)
     have hi' : i = cntB s sep := by omega
     subst hi'
     rw [show ((cntB s sep : Nat) + 1 + 9223372036854775808 : Int) % 18446744073709551616 - 9223372036854775808 = ((cntB s sep + 1 : Nat) : Int) by omega, Int.toNat_natCast]
     show zgn (.lst 1 (zb5 (by1 sep) s).length _) _
     rw [zq1, zbi]
     refine ⟨rfl, fun k j hk hj => ?_⟩
     rw [yjd _ _ _ _ _ hj]
     congr 1
     by_cases hki : k = cntB s sep
     · rw [if_pos hki, hki]; exact (ybg _ _).symm
     · have hk : k < cntB s sep + 1 := hk
       rw [if_neg hki, zz0, if_pos (by omega)]
       rfl
 · (subst hL; subst hQ; simp only [L2, L3, std] at *; try simp only [syS, reduceCtorEq, Int.reduceToNat, Int.reduceAdd, Int.reduceSub] at *)
   exact absurd h3 (by decide)
def ykn (L : za9) : zdq := (124, fun xs => match xs with | [.str s, .str sep] => some (L zth sep /\ L2 L upto 1000000000 s, lstS L (L2 L zlo s sep)) | _ => none)
theorem yf4 : zbp Tryz.prog (ykn std) := by
 intro xs p r h hp
 dsimp only [ykn] at h |-
 split at h <;> cases h
 try simp only [L2, L3, std] at hp |-
 rename_i s sep
 obtain ⟨p1, p2⟩ : zth sep /\ s.length <= 1000000000 := hp
 refine zaw (T := tt) (S := fun L => zb7 [ymf L]) (lo := noA) (lb := noA) 5 (fn := Tryz.f124) rfl rfl (by kernel_rfl) (by kernel_rfl) rfl zad (za7 ⟨yhf, trivial⟩) (by kernel_rfl) ?_
 (intro L P1 Q1 hL hP hQ; cbv; subst hL; simp only [L2, L3, std, syT]; subst hQ)
 (simp only [syS, reduceCtorEq, Int.reduceToNat, Int.reduceAdd, Int.reduceSub])
 refine ⟨⟨p1, p2⟩, ?_⟩
 show zgn (.lst 1 (yh0 (zlo s sep)) _) _
 rw [zq1]
 exact ⟨rfl, fun i j hi hj => rfl⟩
def toS : AV -> List UInt8
 | .str s => s
 | _ => []
def zej (n : Nat) (get : Nat -> Nat -> AV) : List (List UInt8) := (List.range n).map fun i => toS (get i 0)
def jnZ (sep : List UInt8) (x : AV) : List UInt8 := match x with
 | .lst _ n get => Lib.join (zej n get) sep
 | _ => []
def yu7 (sep : List UInt8) (x : AV) : Prop := match x with
 | .lst 1 n get => (∀ i, i < n -> ∃ s, get i 0 = .str s) /\ n <= 1000000 /\ (Lib.join (zej n get) sep).length <= 140737488355328
 | .nils => True
 | _ => False
def yu6 (L : za9) : zdq := (128, fun xs => match xs with | [x, .str sep] => some (L2 L yu7 sep x, .str (L2 L jnZ sep x)) | _ => none)
theorem ys6 {h : Array Obj} {D : Nat -> Prop} {x y : AV} {vs : Array Value} (hr : RL h D zam [x, y] vs) : ∃ a b, vs = #[a, b] /\ R h D zam x a /\ R h D zam y b := by
 obtain ⟨hl, hr⟩ := hr
 obtain ⟨a, b, ha⟩ : ∃ a b, vs.toList = [a, b] := by
   have hl : vs.toList.length = 2 := by simpa using hl.symm
   match vs.toList, hl with
   | [a, b], _ => exact ⟨a, b, rfl⟩
 have : vs = #[a, b] := by rw [<- Array.toArray_toList (xs := vs), ha]
 subst this
 exact ⟨a, b, rfl, hr 0 x a rfl rfl, hr 1 y b rfl rfl⟩
theorem ylz : zbp Tryz.prog (yu6 std) := by
 intro xs p r h hp
 dsimp only [yu6] at h |-
 split at h <;> cases h
 try simp only [L2, L3, std] at hp |-
 rename_i x sep
 have hp : yu7 sep x := hp
 intro D w vs hD hxs hg
 obtain ⟨a, b, rfl, rx, ry⟩ := ys6 hxs
 obtain rfl := yaa ry
 unfold zeq
 rw [zd5 (fn := Tryz.f128) rfl (by kernel_rfl) rfl]
 have fin : ∀ (l : List UInt8), l = jnZ sep x -> (∀ w', Below w.heap.size w w' -> ∃ v D', Ending.returned (.string ⟨l.toArray⟩) = .returned v /\ Below w.heap.size w w' /\ (∀ b, D b -> D' b) /\ (∀ b, D' b -> D b \/ (w.heap.size <= b /\ b < w'.heap.size)) /\ R w'.heap D' zam (.str (jnZ sep x)) v) := by
   rintro l rfl w' hw
   exact ⟨_, D, rfl, hw, fun _ h => h, fun b hb => .inl hb, yf3 _ _ _ _⟩
 have none_ : jnZ sep x = [] -> ∀ (a : Option Addr) (c : Nat), Calls Tryz.prog 128 #[.slice a 0 c, .string ⟨sep.toArray⟩] w fun e w' => ∃ v D', e = .returned v /\ Below w.heap.size w w' /\ (∀ b, D b -> D' b) /\ (∀ b, D' b -> D b \/ (w.heap.size <= b /\ b < w'.heap.size)) /\ R w'.heap D' zam (.str (jnZ sep x)) v := by
   intro h0 a c
   refine (Tryz.strings_Join_none a c ⟨sep.toArray⟩ w).mono ?_
   rintro e w' ⟨rfl, rfl⟩
   exact fin [] h0.symm _ (Below.refl _ _)
 unfold yu7 at hp
 split at hp
 · rename_i n get _
   obtain ⟨h1, h2, h3⟩ := hp
   cases rx with
   | lst0 => exact none_ rfl _ _
   | lst _ _ _ b o cap us hD0 hc hv h1' hr =>
     have hl : (zej n get).length = n := by rw [zej, List.length_map, List.length_range]
     have hq : ∀ j x, ((zej n get).map (fun s : List UInt8 => (⟨s.toArray⟩ : ByteArray)))[j]? = some x -> w.cell? ⟨b, o + j, none⟩ = some (.string x) := by
       intro j x hj
       have hjn : j < n := by
         have := (List.getElem?_eq_some_iff.1 hj).1
         rw [List.length_map, hl] at this
         exact this
       obtain ⟨s, hs⟩ := h1 j hjn
       have r := hr j 0 hjn (by omega)
       rw [hs] at r
       have hv := hv j 0 hjn (by omega)
       rw [yaa r, Nat.mul_one, Nat.add_zero] at hv
       rw [zmw, hv]
       have e2 : (zej n get)[j]? = some s := by rw [zej, List.getElem?_map, List.getElem?_range hjn, Option.map_some, hs]; rfl
       rw [List.getElem?_map, e2] at hj
       cases hj
       rfl
     have hm : ((zej n get).map (fun s : List UInt8 => (⟨s.toArray⟩ : ByteArray))).map (·.data.toList) = zej n get := by
       rw [List.map_map]
       exact List.map_id' _
     have := Tryz.strings_Join b o cap ((zej n get).map (fun s : List UInt8 => (⟨s.toArray⟩ : ByteArray))) ⟨sep.toArray⟩ w hq (hD b hD0) (by rw [List.length_map, hl]; omega) (by rw [List.length_map, hl]; exact hc) (by rw [hm]; exact h3)
     rw [hm, List.length_map, hl] at this
     refine this.mono ?_
     rintro e w' ⟨rfl, hw⟩
     exact fin _ rfl _ hw
 · cases rx
   exact none_ rfl _ _
 · exact hp.elim
end Sy
end Go.Proofs.YtfonekpmkdkgnaaGreatDoor
namespace Go.Proofs.YtfonekpmkdkgnaaGreatDoor
open Go Go.RowKit Go.Sort Go.Lib
set_option maxRecDepth 100000
set_option linter.unusedSimpArgs false
set_option linter.unusedVariables false
set_option maxHeartbeats 6400000 in
theorem yrc (u : Nat) (hu : u < 18446744073709551616) (w : World) (htab : Lib.TabIs Tryz.prog w "internal/strconv.uint64pow10" .u64 Lib.pow10Tab) :
   Calls Tryz.prog 171 #[.int .u64 u, .int .i64 10] w fun e w' => e = .returned (.string ⟨(Lib.decDigits u).toArray⟩) /\ Below w.heap.size w w' := by
 by_cases hs : u < 100
 · have hw : IntKind.i64.wrap (u : Int) = (u : Int) := by rw [IntKind.wrap_i64]; omega
   go_enter Tryz.func171, Tryz.ntmps171
   go_wp2_with (go_at_call 204; refine (Tryz.internal_strconv_small u hs _).mono ?_; rintro e w' ⟨rfl, rfl⟩)
   go_ret
   exact ⟨rfl, Below.refl _ _⟩
 · have hu1 : 1 <= u := by omega
   have hnd20 : Lib.nDigits u <= 20 := by have := Lib.numDigits_eq u hu1 hu; split at this <;> omega
   have hal : Tryz.prog.arrayLen 242 = 24 := by kernel_rfl
   have hsl1 : ∀ W, (Instr.sliceAt 242 (.pointer (some ⟨w.heap.size, 0, none⟩)) none (some (.int .i64 (Lib.nDigits u : Int))) none).run Tryz.prog W = .ok (.slice (some ⟨w.heap.size, 0, none⟩) (Lib.nDigits u) 24) W := fun W => by
     rw [run_sliceAt_array_h W 242 ⟨w.heap.size, 0, none⟩ (by simp [Program.arrayLen, Program.elem, Tryz.underlying242]) .i64 (Lib.nDigits u : Int) (by omega) (by rw [hal]; omega)]
     go_simp
     first | done | omega
   have hH0 := Lib.holds_zero0 w 242 (Lib.nDigits u) (by omega)
   have hfmt := Tryz.internal_strconv_formatBase10 w.heap.size 0 24 u (Array.replicate (Lib.nDigits u) 0) (w.alloc (.cells Lib.zeros24 242)) hH0 (by rw [Array.size_replicate]; exact Lib.lt_pow_nDigits u) hu (by rw [Array.size_replicate]; omega)
   rw [Array.size_replicate] at hfmt
   have HH0 := Lib.hid hH0
   clear hH0 hal
   go_enter Tryz.func171, Tryz.ntmps171
   go_wp2_with (first
     | (go_at_call 205; refine (Tryz.internal_strconv_numDigits u hu1 hu _ (Lib.tabIs_alloc htab _)).mono ?_; rintro e w' ⟨rfl, rfl⟩))
   refine hfmt.mono ?_
   rintro e w' ⟨rfl, k, v', dk, rfl, hF⟩
   have hcv : (convert 118 9 (.slice (some ⟨w.heap.size, 0, none⟩) (Lib.nDigits u) 24)).run Tryz.prog ((putRow (fun (b : UInt8) => Value.int .u8 (b.toNat : Int)) (w.alloc (.cells Lib.zeros24 242)) w.heap.size 0 dk).drewN k) = .ok (.string ⟨(Lib.decDigits u).toArray⟩) ((putRow (fun (b : UInt8) => Value.int .u8 (b.toNat : Int)) (w.alloc (.cells Lib.zeros24 242)) w.heap.size 0 dk).drewN k) := by
     have h := run_convert_bytes_back (P := Tryz.prog) ((putRow (fun (b : UInt8) => Value.int .u8 (b.toNat : Int)) (w.alloc (.cells Lib.zeros24 242)) w.heap.size 0 dk).drewN k) 118 9 5 ⟨w.heap.size, 0, none⟩ 24 (Lib.decDigits u) Tryz.underlying118 Tryz.underlying5 Tryz.underlying9 (fun j hj => by
       rw [Lib.row_is_numeral hF j hj, Lib.add_plain, World.cell?_drewN]
       exact cell?_putRow (fun (b : UInt8) => Value.int .u8 (b.toNat : Int)) _ w.heap.size 0 _ dk HH0.out (by rw [hF.size, Array.size_replicate]) j (by rw [hF.size]; rw [Lib.decDigits_length] at hj; exact hj))
     rw [Lib.decDigits_length] at h
     exact h
   go_wp2
   go_ret
   obtain ⟨os, eo⟩ := Lib.fin_at w (.cells Lib.zeros24 242) dk k 0
   refine ⟨rfl, ?_⟩
   have := Lib.below_grow w.heap.size w (Nat.le_refl _) k os
   rw [<- eo] at this
   exact this
theorem ymm (u : Nat) (hu : u < 18446744073709551616) (w : World) (htab : Lib.TabIs Tryz.prog w "internal/strconv.uint64pow10" .u64 Lib.pow10Tab) :
   Calls Tryz.prog 146 #[.int .u64 u, .int .i64 10] w fun e w' => e = .returned (.string ⟨(Lib.decDigits u).toArray⟩) /\ Below w.heap.size w w' := by
 go_enter Tryz.func146, Tryz.ntmps146
 go_wp2_with (go_at_call 171; refine (yrc u hu _ htab).mono ?_; rintro e w' ⟨rfl, hw⟩)
 go_ret
 exact ⟨rfl, hw⟩
end Go.Proofs.YtfonekpmkdkgnaaGreatDoor
namespace Go.Proofs.YtfonekpmkdkgnaaGreatDoor
namespace Sy
open Go Go.RowKit
set_option maxRecDepth 100000
set_option linter.unusedSimpArgs false
set_option linter.unusedVariables false
theorem zkt {P : Program} {f : FuncId} {fn : Func} {c : Code} {xs : List AV} {args : Array Value} {r : AV} (hf : P.funcs[f]? = some fn) (hb : fn.body = some c) (hn : (fn.name == "runtime.NumGoroutine") = false)
   (ha : ∀ h D vs, RL h D zam xs vs -> vs = args) (h : ∀ w, GOk w -> Calls P f args w fun e w' => ∃ v, e = .returned v /\ Below w.heap.size w w' /\ ∀ h D, R h D zam r v) : za5 P f xs r := by
 intro D w vs hD hxs hg
 have := ha _ _ _ hxs
 subst this
 unfold zeq
 rw [zd5 hf hn hb]
 refine (h w hg).mono ?_
 rintro e w' ⟨v, rfl, hw, hv⟩
 exact ⟨v, D, rfl, hw, fun _ h => h, fun b hb => .inl hb, hv _ _⟩
theorem yvc {x y z : AV} {v u t : Value} (hx : zsl x v) (hy : zsl y u) (hz : zsl z t) : ∀ h D vs, RL h D zam [x, y, z] vs -> vs = #[v, u, t] := by
 intro h D vs ⟨hl, hr⟩
 obtain ⟨a, b, c, ha⟩ : ∃ a b c, vs.toList = [a, b, c] := by
   have hl : vs.toList.length = 3 := by simpa using hl.symm
   match vs.toList, hl with
   | [a, b, c], _ => exact ⟨a, b, c, rfl⟩
 have : vs = #[a, b, c] := by rw [<- Array.toArray_toList (xs := vs), ha]
 subst this
 rw [hx _ _ a (hr 0 x a rfl rfl), hy _ _ b (hr 1 y b rfl rfl), hz _ _ c (hr 2 z c rfl rfl)]
def zdc (n : Int) : List UInt8 := Lib.decDigits n.toNat
def zll (n : Int) : Prop := 0 <= n /\ n < 18446744073709551616
def yml (L : za9) : zdq := (146, fun xs => match xs with | [.int .u64 n, .int .i64 b] => some (L2 L (fun n b : Int => zll n /\ b = 10) n b, .str (L zdc n)) | _ => none)
theorem yhi : zbp Tryz.prog (yml std) := by
 intro xs p r h hp
 dsimp only [yml] at h |-
 split at h <;> cases h
 try simp only [L2, L3, std] at hp |-
 rename_i n b
 obtain ⟨⟨h0, h1⟩, h2⟩ : zll n /\ b = 10 := hp
 subst h2
 obtain ⟨u, rfl⟩ := zo8 h0
 refine zkt (fn := Tryz.f146) rfl rfl (by kernel_rfl) (yeg (zei _ _) (zei _ _)) (fun w hg => (ymm u (by omega) w hg.2.1).mono ?_)
 rintro e w' ⟨rfl, hw⟩
 exact ⟨_, rfl, hw, fun h D => yf3 h D _ _⟩
def yfv (s : List UInt8) : Int := match Lib.parseUintB 64 s with | .ok u => u | .syntax => 0 | .range => 18446744073709551615
def yeu (s : List UInt8) : Bool := match Lib.parseUintB 64 s with | .ok _ => true | _ => false
def yla (L : za9) : zdq := (145, fun xs => match xs with | [.str s, .int .i64 b, .int .i64 z] => some (L3 L (fun (s : List UInt8) (b z : Int) => s.length <= 140737488355328 /\ b = 10 /\ z = 64) s b z, .tup [.int .u64 (L yfv s), .ifb (L yeu s)]) | _ => none)
theorem ya8 {x y : AV} {v u : Value} {h : Array Obj} {D : Nat -> Prop} (hx : R h D zam x v) (hy : R h D zam y u) : R h D zam (.tup [x, y]) (.tuple #[v, u]) := by
 refine .tup _ _ rfl ?_
 intro i z t hz ht
 match i with
 | 0 => simp at hz ht; subst hz ht; exact hx
 | 1 => simp at hz ht; subst hz ht; exact hy
 | i + 2 => simp at hz
theorem yfu : zbp Tryz.prog (yla std) := by
 intro xs p r h hp
 dsimp only [yla] at h |-
 split at h <;> cases h
 try simp only [L2, L3, std] at hp |-
 rename_i s b z
 obtain ⟨h0, h1, h2⟩ : s.length <= 140737488355328 /\ b = 10 /\ z = 64 := hp
 subst h1; subst h2
 have hs : (⟨s.toArray⟩ : ByteArray).size = s.length := by show s.toArray.size = s.length; simp
 have hd : (⟨s.toArray⟩ : ByteArray).data.toList = s := rfl
 refine zkt (fn := Tryz.f145) rfl rfl (by kernel_rfl) (yvc (zeh _) (zei _ _) (zei _ _)) (fun w hg => ?_)
 obtain ⟨-, -, ⟨t2, p2, g2⟩, ⟨t3, p3, g3⟩, -⟩ := hg
 cases hq : Lib.parseUintB 64 s with
 | ok u =>
   refine (Tryz.strconv_ParseUint_10_at64_ok ⟨s.toArray⟩ (by rw [hs]; omega) u (by rw [hd]; exact hq) w).mono ?_
   rintro e w' ⟨rfl, hw⟩
   refine ⟨_, rfl, ?_, fun h D => ya8 ?_ ?_⟩
   · rcases hw with rfl | rfl
     · exact Below.refl _ _
     · exact Lib.bytesWorld_below _ _ _
   · show R h D zam (.int .u64 (yfv s)) _
     rw [yfv, hq]; exact .int _ _
   · show R h D zam (.ifb (yeu s)) _
     rw [yeu, hq]; exact .ifn
 | «syntax» =>
   refine (Tryz.strconv_ParseUint_10_at64_syntax_var ⟨s.toArray⟩ (by rw [hs]; omega) (by rw [hd]; exact hq) t2 p2 w g2).mono ?_
   rintro e w' ⟨N, rfl, hN, hc, hw⟩
   refine ⟨_, rfl, hw, fun h D => ya8 ?_ ?_⟩
   · show R h D zam (.int .u64 (yfv s)) _
     rw [yfv, hq]; exact .int _ _
   · show R h D zam (.ifb (yeu s)) _
     rw [yeu, hq]; exact .ifs _ _
 | range =>
   refine (Tryz.strconv_ParseUint_10_at64_range_var ⟨s.toArray⟩ (by rw [hs]; omega) (by rw [hd]; exact hq) t3 p3 w g3).mono ?_
   rintro e w' ⟨N, rfl, hN, hc, hw⟩
   refine ⟨_, rfl, hw, fun h D => ya8 ?_ ?_⟩
   · show R h D zam (.int .u64 (yfv s)) _
     rw [yfv, hq]; exact .int _ _
   · show R h D zam (.ifb (yeu s)) _
     rw [yeu, hq]; exact .ifs _ _
def isD (c : UInt8) : Bool := decide (48 <= c.toNat) && decide (c.toNat <= 57)
def dcS (a : Nat) (c : UInt8) : Nat := a * 10 + (c.toNat - 48)
def zno (a : Nat) (l : List UInt8) : Nat := l.foldl dcS a
theorem zlf (a : Nat) : zno a [] = a := by unfold zno; exact List.foldl_nil
theorem zjb (a : Nat) (c : UInt8) (r : List UInt8) : zno a (c :: r) = zno (a * 10 + (c.toNat - 48)) r := by unfold zno; exact List.foldl_cons ..
theorem zwd (l : List UInt8) (c : UInt8) (a : Nat) : zno a (l ++ [c]) = zno a l * 10 + (c.toNat - 48) := by
 unfold zno
 rw [List.foldl_append, List.foldl_cons, List.foldl_nil, dcS]
theorem zud : ∀ (l : List UInt8) (a : Nat), a <= zno a l
 | [], a => by rw [zlf]; exact Nat.le_refl _
 | c :: r, a => by rw [zjb]; exact Nat.le_trans (by omega) (zud r _)
theorem zid {c : UInt8} : isD c = true ↔ 48 <= c.toNat /\ c.toNat <= 57 := by
 simp [isD]
theorem yjb : ∀ (l : List UInt8) (a : Nat), l.all isD = true -> a < 18446744073709551616 -> Lib.parseUintM 18446744073709551615 a l = if zno a l < 18446744073709551616 then .ok (zno a l) else .range
 | [], a, _, ha => by
   rw [zlf, if_pos ha, Lib.parseUintM]
 | c :: r, a, h, ha => by
   rw [List.all_cons, Bool.and_eq_true] at h
   obtain ⟨h1, h2⟩ := h
   rw [zid] at h1
   rw [Lib.parseUintM, if_pos h1, zjb]
   have hge := zud r (a * 10 + (c.toNat - 48))
   split
   · rw [if_neg (by omega)]
   · split
     · rw [if_neg (by omega)]
     · exact yjb r _ h2 (by omega)
theorem ylb {l : List UInt8} (h : l.all isD = true) (h0 : l ≠ []) : Lib.parseUintB 64 l = if zno 0 l < 18446744073709551616 then .ok (zno 0 l) else .range := by
 rw [Lib.parseUintB, if_neg h0]
 exact yjb l 0 h (by decide)
def ztk (s : List UInt8) : Bool := s.all isD && !(s == []) && (!(zkv s 0 == 48) || s == [48])
def zsq (s : List UInt8) : Int := if ztk s = true then (if zno 0 s < 18446744073709551616 then 0 else 7) else 4
def wnV (s : List UInt8) : Int := if zsq s = 0 then zno 0 s else 0
def yn3 (L : za9) : zdq := (127, fun xs => match xs with | [.int .u64 n] => some (L zll n, .str (L zdc n)) | _ => none)
theorem yi3 : zbp Tryz.prog (yn3 std) := by
 intro xs p r h hp
 dsimp only [yn3] at h |-
 split at h <;> cases h
 try simp only [L2, L3, std] at hp |-
 rename_i n
 have hn : zll n := hp
 refine zaw (T := tt) (S := fun L => zb7 [yml L]) (lo := noA) (lb := noA) 5 (fn := Tryz.f127) rfl rfl (by kernel_rfl) (by kernel_rfl) rfl zad (za7 ⟨yhi, trivial⟩) (by kernel_rfl) ?_
 (intro L P1 Q1 hL hP hQ; cbv; subst hL; simp only [L2, L3, std, syT]; subst hQ)
 refine ⟨⟨hn, trivial⟩, ?_⟩
 rw [zw7]
def yg7 (s : List UInt8) (i : Nat) : Prop := i <= s.length /\ (s.take i).all isD = true
theorem ymn (a b c d : Int) : zgn (.tup [.int .u64 a, .int .i64 b]) (.tup [.int .u64 c, .int .i64 d]) = (c = a /\ d = b) := by
 simp [sySet]
theorem zpj {s : List UInt8} (h : ztk s = false) : 0 = wnV s /\ 4 = zsq s := by
 have e : zsq s = 4 := by rw [zsq, if_neg (by rw [h]; decide)]
 exact ⟨by rw [wnV, if_neg (by rw [e]; decide)], e.symm⟩
theorem ybz {s : List UInt8} {i : Nat} (hi : i < s.length) (h : zkv s (zbh i) < 48 \/ 57 < zkv s (zbh i)) : ztk s = false := by
 have : s.all isD = false := by
   rw [List.all_eq_false]
   refine ⟨s[i], List.getElem_mem hi, ?_⟩
   rw [zid]
   rw [zkv, zbh, Int.toNat_natCast, List.getD_eq_getElem?_getD, List.getElem?_eq_getElem hi, Option.getD_some] at h
   omega
 rw [ztk, this]; rfl
theorem ylk {s : List UInt8} {i i' : Nat} (hi' : i' = i + 1) (h : yg7 s i) (hi : i < s.length) (h1 : ¬ zkv s (zbh i) < 48) (h2 : ¬ 57 < zkv s (zbh i)) : yg7 s i' := by
 subst hi'
 refine ⟨hi, ?_⟩
 rw [List.take_succ_eq_append_getElem hi, List.all_append, h.2, List.all_cons, List.all_nil]
 rw [zkv, zbh, Int.toNat_natCast, List.getD_eq_getElem?_getD, List.getElem?_eq_getElem hi, Option.getD_some] at h1 h2
 have : isD s[i] = true := zid.2 (by omega)
 rw [this]; rfl
theorem zvg {s : List UInt8} {i : Nat} (h : yg7 s i) (hi : ¬ i < s.length) : s.all isD = true := by
 have := h.2
 rw [List.take_of_length_le (by omega)] at this
 exact this
theorem zl7 {s : List UInt8} (h : s.all isD = true) (h0 : s ≠ []) (h1 : zkv s 0 ≠ 48 \/ s = [48]) : ((!yeu s) = true -> 0 = wnV s /\ 7 = zsq s) /\ ((!yeu s) = false -> yfv s = wnV s /\ 0 = zsq s) := by
 have ho : ztk s = true := by
   rw [ztk, h]
   rcases h1 with h1 | h1
   · simp [h0, h1]
   · subst h1; rfl
 have hB := ylb h h0
 rw [wnV, zsq, if_pos ho, yeu, yfv, hB]
 by_cases hl : zno 0 s < 18446744073709551616
 · rw [if_pos hl, if_pos hl]
   exact ⟨fun h => by simp at h, fun _ => ⟨rfl, rfl⟩⟩
 · rw [if_neg hl, if_neg hl]
   exact ⟨fun _ => ⟨rfl, rfl⟩, fun h => by simp at h⟩
def nuA (L : za9) (s : List UInt8) : Nat -> St -> Option Ann := fun id st => match id with
 | 0 => some ⟨Nat, fun i => [(9, .int .i64 (L zbh i))], fun _ => [], [0, 8], [], fun i => L2 L yg7 s i, fun i => L2 L (fun (s : List UInt8) (i : Nat) => s.length - i) s i⟩
 | _ => none
def zzv (L : za9) : zdq := (125, fun xs => match xs with | [.str s] => some (L2 L upto 1000000 s, .tup [.int .u64 (L wnV s), .int .i64 (L zsq s)]) | _ => none)
theorem zh1 {n k : Nat} (h : ilt (zbh n) (zbh k) = true) : n < k := by
 have := of_decide_eq_true h
 unfold zbh at this; omega
theorem zj9 {n k : Nat} (h : ilt (zbh n) (zbh k) = false) : ¬ n < k := by
 have := of_decide_eq_false h
 unfold zbh at this; omega
theorem ycp {n k : Nat} (h : n < k) : inR (zbh n) (zbh k) = true := by rw [ym3]; exact ⟨Int.natCast_nonneg _, by unfold zbh; omega⟩
theorem yga {n n' : Nat} (h : n' = n + 1) (h2 : n < 100000000) : yse .i64 (zbh n) 1 = zbh n' := by
 subst h; unfold zbh; rw [yse, yp3]; omega
theorem zr6 {s : List UInt8} (h : seq s [] = false) : s ≠ [] := by
 intro e; subst e; exact absurd h (by decide)
theorem yqd {s : List UInt8} (h : seq s [] = true) : ztk s = false := by
 have : s = [] := by simpa [seq] using h
 subst this; rfl
theorem yqa {s : List UInt8} (h : seq s [] = false) : inR 0 (slen s) = true := by
 have := zr6 h
 rw [ym3, slen]
 have : 0 < s.length := List.length_pos_iff.2 this
 omega
theorem yq9 {s : List UInt8} (h : (!seq s [48]) = false) : s = [48] := by
 have : seq s [48] = true := by simpa using h
 simpa [seq] using this
theorem yjg {s : List UInt8} (h : ieq (zkv s 0) 48 = false) : zkv s 0 ≠ 48 := by
 simpa [ieq] using h
theorem yqc {s : List UInt8} (h : ieq (zkv s 0) 48 = true) (h2 : (!seq s [48]) = true) : ztk s = false := by
 have h1 : zkv s 0 = 48 := by simpa [ieq] using h
 have h3 : ¬ s = [48] := by
   intro e; subst e; exact absurd h2 (by decide)
 rw [ztk, h1]
 simp [h3]
theorem zzw : zbp Tryz.prog (zzv std) := by
 intro xs p r h hp
 dsimp only [zzv] at h |-
 split at h <;> cases h
 try simp only [L2, L3, std] at hp |-
 rename_i s
 have hs : s.length <= 1000000 := hp
 refine zaw (T := tt) (S := fun L => zb7 [yla L]) (lo := fun L => nuA L s) (lb := noA) 5 (fn := Tryz.f125) rfl rfl (by kernel_rfl) (by kernel_rfl) rfl zad (za7 ⟨yfu, trivial⟩) (by kernel_rfl) ?_
 obtain ⟨n0, hn0⟩ : ∃ n : Nat, n = 0 := ⟨_, rfl⟩
 intro L P' Q' hL hP hQ
 (cbv; try simp only [syT, true_and, and_true])
 refine ⟨⟨n0, ?_⟩, fun i hi => ?_⟩
 · (cbv; try simp only [syT, true_and, and_true])
   subst hL; subst hQ; subst hn0
   exact ⟨rfl, Nat.zero_le _, by rw [List.take_zero]; rfl⟩
 obtain ⟨i', hi'⟩ : ∃ i' : Nat, i' = i + 1 := ⟨_, rfl⟩
 (cbv; try simp only [syT, true_and, and_true])
 refine ⟨fun h1 => ⟨?_, fun h2 => ?_, fun h2 => ⟨?_, fun h3 => ?_, fun h3 => ⟨i', ?_⟩⟩⟩, fun h1 => ⟨fun h2 => ?_, fun h2 => ⟨?_, fun h3 => ⟨fun h4 => ?_, fun h4 => ⟨?_, fun h5 => ?_, fun h5 => ?_⟩⟩, fun h3 => ⟨?_, fun h5 => ?_, fun h5 => ?_⟩⟩⟩⟩
 all_goals (try (cbv; try simp only [syT, true_and, and_true]))
 all_goals (subst hL; subst hQ)
 all_goals (try rw [ymn])
 · exact ycp (k := s.length) (zh1 h1)
 · exact zpj (ybz (zh1 (k := s.length) h1) (.inl (of_decide_eq_true h2)))
 · exact ycp (k := s.length) (zh1 h1)
 · exact zpj (ybz (zh1 (k := s.length) h1) (.inr (of_decide_eq_true h3)))
 · have hlt : i < s.length := zh1 (k := s.length) h1
   refine ⟨yga hi' (by omega), ylk hi' hi hlt (of_decide_eq_false h2) (of_decide_eq_false h3), ?_⟩
   show s.length - i' + 1 <= s.length - i
   omega
 · exact zpj (yqd h2)
 · exact yqa h2
 · exact zpj (yqc h3 h4)
 · exact ⟨by omega, rfl, rfl⟩
 · exact (zl7 (zvg hi (zj9 (k := s.length) h1)) (zr6 h2) (.inr (yq9 h4))).1 h5
 · exact (zl7 (zvg hi (zj9 (k := s.length) h1)) (zr6 h2) (.inr (yq9 h4))).2 h5
 · exact ⟨by omega, rfl, rfl⟩
 · exact (zl7 (zvg hi (zj9 (k := s.length) h1)) (zr6 h2) (.inl (yjg h3))).1 h5
 · exact (zl7 (zvg hi (zj9 (k := s.length) h1)) (zr6 h2) (.inl (yjg h3))).2 h5
theorem ya6 {N : Nat} (h : (N : Int) < 18446744073709551616) : N < 18446744073709551616 := by omega
theorem yrp {n : Nat} (h : n < 10) : (UInt8.ofNat (48 + n)).toNat = 48 + n := by
 rw [UInt8.toNat_ofNat']; omega
theorem yk1 (u : Nat) : (Lib.decDigits u).all isD = true /\ Lib.decDigits u ≠ [] /\ zno 0 (Lib.decDigits u) = u /\ (1 <= u -> zkv (Lib.decDigits u) 0 ≠ 48) := by
 induction u using Nat.strongRecOn with
 | _ u ih =>
   by_cases h : u < 10
   · rw [Lib.decDigits_one h]
     have hc := yrp h
     refine ⟨?_, by simp, ?_, fun h1 => ?_⟩
     · rw [List.all_cons, List.all_nil, Bool.and_true, zid, hc]; omega
     · rw [zjb, zlf, hc]; omega
     · show ((UInt8.ofNat (48 + u)).toNat : Int) ≠ 48
       rw [hc]; omega
   · obtain ⟨a1, a2, a3, a4⟩ := ih (u / 10) (by omega)
     have hc := yrp (show u % 10 < 10 by omega)
     rw [Lib.decDigits, dif_neg h]
     refine ⟨?_, by simp, ?_, fun _ => ?_⟩
     · rw [List.all_append, a1, List.all_cons, List.all_nil, Bool.and_true, Bool.true_and, zid, hc]; omega
     · rw [zwd, a3, hc]; omega
     · have := a4 (by omega)
       have h0 : 0 < (Lib.decDigits (u / 10)).length := List.length_pos_iff.2 a2
       rw [zkv, List.getD_eq_getElem?_getD] at this |-
       rw [List.getElem?_append_left (by simpa using h0)]
       exact this
theorem zfc {n : Int} (h : zll n) : zsq (zdc n) = 0 /\ wnV (zdc n) = n := by
 obtain ⟨u, rfl⟩ := zo8 h.1
 have hu : u < 18446744073709551616 := ya6 h.2
 obtain ⟨a1, a2, a3, a4⟩ := yk1 u
 have ho : ztk (zdc (u : Int)) = true := by
   rw [zdc, Int.toNat_natCast, ztk, a1]
   by_cases h0 : 1 <= u
   · simp [a2, a4 h0]
   · have : u = 0 := by omega
     subst this
     rw [Lib.decDigits_one (by decide)]; rfl
 have e : zsq (zdc (u : Int)) = 0 := by
   rw [zsq, if_pos ho, zdc, Int.toNat_natCast, a3, if_pos hu]
 refine ⟨e, ?_⟩
 rw [wnV, if_pos e, zdc, Int.toNat_natCast, a3]
theorem yk0 : ∀ (n : Nat) (s : List UInt8), s.length = n -> s.all isD = true -> s ≠ [] -> (zkv s 0 ≠ 48 \/ s = [48]) -> Lib.decDigits (zno 0 s) = s
 | 0, s, hl, _, h0, _ => absurd (List.eq_nil_of_length_eq_zero hl) h0
 | n + 1, s, hl, ha, h0, hz => by
   obtain ⟨t, c, rfl⟩ : ∃ t c, s = t ++ [c] := ⟨s.dropLast, s.getLast h0, (List.dropLast_concat_getLast h0).symm⟩
   rw [List.all_append, List.all_cons, List.all_nil, Bool.and_true, Bool.and_eq_true] at ha
   obtain ⟨ht, hc⟩ := ha
   rw [zid] at hc
   rw [zwd]
   have back : UInt8.ofNat (48 + (c.toNat - 48)) = c := by
     apply UInt8.toNat_inj.1
     rw [UInt8.toNat_ofNat']
     have := c.toNat_lt
     omega
   by_cases htn : t = []
   · subst htn
     rw [zlf, Nat.zero_mul, Nat.zero_add, Lib.decDigits_one (by omega), back]; rfl
   · have hlt : t.length = n := by simpa using hl
     obtain ⟨x, r, rfl⟩ := List.exists_cons_of_ne_nil htn
     have hx : zkv (x :: r) 0 ≠ 48 := by
       rcases hz with hz | hz
       · exact hz
       · have := congrArg List.length hz
         simp at this
     have h1 : 1 <= zno 0 (x :: r) := by
       rw [zjb]
       refine Nat.le_trans ?_ (zud r _)
       rw [List.all_cons, Bool.and_eq_true, zid] at ht
       have : x.toNat ≠ 48 := fun e => hx (by show ((x.toNat : Nat) : Int) = 48; omega)
       omega
     have ih := yk0 n (x :: r) hlt ht htn (.inl hx)
     generalize zno 0 (x :: r) = v at h1 ih |-
     rw [Lib.decDigits, dif_neg (by omega), show (v * 10 + (c.toNat - 48)) / 10 = v by omega, show (v * 10 + (c.toNat - 48)) % 10 = c.toNat - 48 by omega, ih, back]
theorem ytz {s : List UInt8} (h : ztk s = true) : s.all isD = true /\ s ≠ [] /\ (zkv s 0 ≠ 48 \/ s = [48]) := by
 simp only [ztk, Bool.and_eq_true, Bool.not_eq_true', Bool.or_eq_true, beq_iff_eq, beq_eq_false_iff_ne, ne_eq] at h
 exact ⟨h.1.1, h.1.2, h.2⟩
theorem zhq {s : List UInt8} (h : zsq s = 0) : zdc (wnV s) = s /\ zll (wnV s) := by
 have ho : ztk s = true := by
   cases hq : ztk s with
   | true => rfl
   | false => rw [zsq, hq, if_neg (by decide)] at h; exact absurd h (by decide)
 have hl : zno 0 s < 18446744073709551616 := by
   rw [zsq, if_pos ho] at h
   split at h
   · assumption
   · exact absurd h (by decide)
 obtain ⟨h1, h2, h3⟩ := ytz ho
 rw [wnV, if_pos h, zdc, Int.toNat_natCast, yk0 _ s rfl h1 h2 h3]
 exact ⟨rfl, by unfold zll; omega⟩
theorem zmr {n : Int} (h : zll n) : (zdc n).length <= 20 := by
 obtain ⟨u, rfl⟩ := zo8 h.1
 have hu : u < 18446744073709551616 := ya6 h.2
 rw [zdc, Int.toNat_natCast, Lib.decDigits_length]
 by_cases h0 : u = 0
 · subst h0; rw [Lib.nDigits_small (by decide)]; decide
 · have := Lib.numDigits_eq u (by omega) hu
   split at this <;> omega
structure Pl where
 a : Int
 b : Int
 c : Int
 d : Int
 p : Int
 deriving DecidableEq
def plA (L : za9) (x : Pl) : AV := .agg [.int .u8 (L Pl.a x), .int .u8 (L Pl.b x), .int .u8 (L Pl.c x), .int .u8 (L Pl.d x), .int .u16 (L Pl.p x)]
def yok (L : za9) (a b c d p : Int) : Pl := L (L (L (L (L Pl.mk a) b) c) d) p
def zqd (x : Pl) : Prop := (0 <= x.a /\ x.a <= 255) /\ (0 <= x.b /\ x.b <= 255) /\ (0 <= x.c /\ x.c <= 255) /\ (0 <= x.d /\ x.d <= 255) /\ 0 <= x.p /\ x.p <= 65535
def ub (n : Int) : UInt8 := UInt8.ofNat n.toNat
def plB (x : Pl) : List UInt8 := [ub x.a, ub x.b, ub x.c, ub x.d, ub (x.p / 256), ub (x.p % 256)]
def plT (x : Pl) : List UInt8 := zdc x.a ++ 46 :: (zdc x.b ++ 46 :: (zdc x.c ++ 46 :: (zdc x.d ++ 58 :: zdc x.p)))
theorem yp4 (n : Nat) : UInt8.ofNat n = UInt8.ofNat (n % 256) := by
 apply UInt8.toNat_inj.1
 rw [UInt8.toNat_ofNat', UInt8.toNat_ofNat']; omega
theorem ytq {p : Int} (h0 : 0 <= p) (h1 : p <= 65535) : putZ p 2 = [ub (p / 256), ub (p % 256)] := by
 obtain ⟨n, rfl⟩ := zo8 h0
 show zt8 n 2 = _
 rw [zt8, zt8, zt8, Nat.pow_one, Nat.pow_zero, Nat.div_one, yp4 n]
 show _ = [UInt8.ofNat ((n : Int) / 256).toNat, UInt8.ofNat ((n : Int) % 256).toNat]
 rw [show ((n : Int) / 256).toNat = n / 256 by omega, show ((n : Int) % 256).toNat = n % 256 by omega]
theorem yir {n : Int} (h0 : 0 <= n) (h1 : n <= 255) : ((ub n).toNat : Int) = n := by
 rw [ub, UInt8.toNat_ofNat']; omega
def zq8 (L : za9) : zdq := (73, fun xs => match xs with
 | [.agg [.int .u8 a, .int .u8 b, .int .u8 c, .int .u8 d, .int .u16 p]] => some (L zqd (yok L a b c d p), .str (L plB (yok L a b c d p)))
 | _ => none)
theorem zol : zbp Tryz.prog (zq8 std) := by
 intro xs p r h hp
 dsimp only [zq8] at h |-
 split at h <;> cases h
 try simp only [L2, L3, std] at hp |-
 rename_i a b c d p
 have hp : zqd ⟨a, b, c, d, p⟩ := hp
 refine zaw (T := tt) (S := fun L => zb7 [yfs L]) (lo := noA) (lb := noA) 5 (fn := Tryz.f73) rfl rfl (by kernel_rfl) (by kernel_rfl) rfl zad (za7 ⟨zv7, trivial⟩) (by kernel_rfl) ?_
 (intro L P1 Q1 hL hP hQ; cbv; subst hL; simp only [L2, L3, std, syT]; subst hQ)
 (simp only [syS, reduceCtorEq, Int.reduceToNat, Int.reduceAdd, Int.reduceSub])
 obtain ⟨-, -, -, -, h1, h2⟩ := hp
 simp only at h1 h2
 have h2 : p <= 65535 := h2
 rw [show p % 18446744073709551616 = p by omega, ytq h1 h2]
 exact ⟨fun i _ => ⟨_, rfl⟩, ⟨by omega, by omega, by decide, by decide⟩, by simp [zca], rfl⟩
def ipL (x : Pl) : List Int := [x.a, x.b, x.c, x.d]
def ipT (x : Pl) (j : Nat) : List UInt8 := zdc (zn7 (ipL x) j)
def le4s (i : Nat) : Prop := i <= 4
def to4 (i : Nat) : Nat := 4 - i
def txtA (L : za9) (x : Pl) : Nat -> St -> Option Ann := fun id st => match id with
 | 0 => some ⟨Nat, fun i => [(8, .int .i64 (L zbh i)), (3, .sl 900 1 0 i)], fun i => [(900, .row 9 1 i (fun j _ => .str (L2 L ipT x j)))], [1, 7], [1], fun i => L le4s i, fun i => L to4 i⟩
 | _ => none
theorem zye {x : Pl} (h : zqd x) (j : Nat) : zll (zn7 (ipL x) j) := by
 obtain ⟨h1, h2, h3, h4, -⟩ := h
 match j with
 | 0 => exact ⟨h1.1, by have := h1.2; show x.a < _; omega⟩
 | 1 => exact ⟨h2.1, by have := h2.2; show x.b < _; omega⟩
 | 2 => exact ⟨h3.1, by have := h3.2; show x.c < _; omega⟩
 | 3 => exact ⟨h4.1, by have := h4.2; show x.d < _; omega⟩
 | j + 4 => exact ⟨Int.le_refl 0, (by decide : (0 : Int) < 18446744073709551616)⟩
theorem yu5 (x : Pl) : Lib.join [zdc x.a, zdc x.b, zdc x.c, zdc x.d] [46] = zdc x.a ++ 46 :: (zdc x.b ++ 46 :: (zdc x.c ++ 46 :: zdc x.d)) := by
 simp [Lib.join, List.intercalate]
def zta (L : za9) : zdq := (94, fun xs => match xs with
 | [.agg [.int .u8 a, .int .u8 b, .int .u8 c, .int .u8 d, .int .u16 p]] => some (L zqd (yok L a b c d p), .str (L plT (yok L a b c d p)))
 | _ => none)
theorem zxr : zbp Tryz.prog (zta std) := by
 intro xs p r h hp
 dsimp only [zta] at h |-
 split at h <;> cases h
 try simp only [L2, L3, std] at hp |-
 rename_i a b c d p
 have hp : zqd ⟨a, b, c, d, p⟩ := hp
 refine zaw (T := tt) (S := fun L => zb7 [yn3 L, yu6 L]) (lo := fun L => txtA L ⟨a, b, c, d, p⟩) (lb := noA) 5 (fn := Tryz.f94) rfl rfl (by kernel_rfl) (by kernel_rfl) rfl zad (za7 ⟨yi3, ylz, trivial⟩) (by kernel_rfl) ?_
 intro L P' Q' hL hP hQ
 (cbv; try simp only [syT, true_and, and_true])
 refine ⟨⟨0, ?_⟩, fun i hi => ?_⟩
 · (cbv; try simp only [syT, true_and, and_true])
   (subst hL; subst hQ; simp only [L2, L3, std] at *; try simp only [syS, reduceCtorEq, Int.reduceToNat, Int.reduceAdd, Int.reduceSub] at *)
   exact Nat.zero_le _
 · (cbv; try simp only [syT, true_and, and_true])
   have hi4 : i <= 4 := by
     have hi' := hi
     rw [hL] at hi'
     exact hi'
   refine ⟨fun h1 => ⟨?_, ?_, ?_, i + 1, ?_⟩, fun h1 => ⟨?_, ?_, ?_, ?_, ?_⟩⟩
   · (subst hL; subst hQ; simp only [L2, L3, std] at *; try simp only [syS, reduceCtorEq, Int.reduceToNat, Int.reduceAdd, Int.reduceSub] at *)
     omega
   · (subst hL; subst hQ; simp only [L2, L3, std] at *; try simp only [syS, reduceCtorEq, Int.reduceToNat, Int.reduceAdd, Int.reduceSub] at *)
     have := zye hp i
     show zll (_ % _)
     rw [show zn7 [a, b, c, d] i % 18446744073709551616 = zn7 (ipL ⟨a, b, c, d, p⟩) i from Int.emod_eq_of_lt this.1 this.2]
     exact this
   · (subst hL; subst hQ; simp only [L2, L3, std] at *; try simp only [syS, reduceCtorEq, Int.reduceToNat, Int.reduceAdd, Int.reduceSub] at *)
     omega
   · (cbv; try simp only [syT, true_and, and_true])
     (subst hL; subst hQ; simp only [L2, L3, std] at *; try simp only [syS, reduceCtorEq, Int.reduceToNat, Int.reduceAdd, Int.reduceSub] at *)
     refine ⟨fun k j hk hj => ?_, by omega, by show i + 1 <= 4; omega, by show 4 - (i + 1) + 1 <= 4 - i; omega⟩
     by_cases hk' : k < i
     · rw [zih hk', show k - i = 0 by omega]; rfl
     · have : k = i := by omega
       subst this
       rw [zki (by omega), show k - k = 0 by omega]
       match j, hj with
       | 0, _ =>
         have := zye hp k
         show AV.str (zdc (zn7 [a, b, c, d] k % 18446744073709551616)) = .str (zdc (zn7 (ipL ⟨a, b, c, d, p⟩) k))
         rw [show zn7 [a, b, c, d] k % 18446744073709551616 = zn7 (ipL ⟨a, b, c, d, p⟩) k from Int.emod_eq_of_lt this.1 this.2]
   all_goals
     (subst hL; subst hQ; simp only [L2, L3, std] at *; try simp only [syS, reduceCtorEq, Int.reduceToNat, Int.reduceAdd, Int.reduceSub] at *)
     have h4 : i = 4 := by omega
     subst h4
     have l1 := zmr (zye hp 0)
     have l2 := zmr (zye hp 1)
     have l3 := zmr (zye hp 2)
     have l4 := zmr (zye hp 3)
     have hp5 : 0 <= p /\ p <= 65535 := hp.2.2.2.2
     have l5 := zmr (n := p) ⟨hp5.1, by omega⟩
     have hj : jnZ [46] (.lst 1 4 fun i x => AV.str (ipT ⟨a, b, c, d, p⟩ i)) = zdc a ++ 46 :: (zdc b ++ 46 :: (zdc c ++ 46 :: zdc d)) := yu5 ⟨a, b, c, d, p⟩
     have hm : p % 18446744073709551616 = p := by omega
     simp only [zn7, ipL, List.getD_cons_zero, List.getD_cons_succ] at l1 l2 l3 l4
     have hl : (zdc a ++ 46 :: (zdc b ++ 46 :: (zdc c ++ 46 :: zdc d))).length <= 100 := by
       simp only [List.length_append, List.length_cons]; omega
   · refine ⟨fun k hk => ⟨_, rfl⟩, by omega, ?_⟩
     have : Lib.join (zej 4 fun i x => AV.str (ipT ⟨a, b, c, d, p⟩ i)) [46] = zdc a ++ 46 :: (zdc b ++ 46 :: (zdc c ++ 46 :: zdc d)) := hj
     rw [this]; omega
   · rw [hj, List.length_singleton]; omega
   · rw [hm]; exact ⟨hp5.1, by omega⟩
   · rw [hj, hm, List.length_append, List.length_singleton]; omega
   · rw [hj, hm]
     show _ = plT ⟨a, b, c, d, p⟩
     simp [plT]
theorem yjc {x : Pl} {a b c d p : Int} (h : x = ⟨a, b, c, d, p⟩) : fits1 (plA std x) (.agg [.int .u8 a, .int .u8 b, .int .u8 c, .int .u8 d, .int .u16 p]) := by
 subst h
 show fits1 (.agg [.int .u8 a, .int .u8 b, .int .u8 c, .int .u8 d, .int .u16 p]) _
 simp only [zbt, zc7, and_self]
def zpx (s : List UInt8) : List (List UInt8) := zlo (yi7 s [58]) [46]
def ztc (s : List UInt8) : List UInt8 := ydn s [58]
def zng (s : List UInt8) (k : Nat) : Int := wnV (zxy (zpx s) k)
def yet (s : List UInt8) (k : Nat) : Int := zsq (zxy (zpx s) k)
def prtO (s : List UInt8) (k : Nat) : Prop := yet s k = 0 /\ zng s k <= 255
def ysf (s : List UInt8) : Prop := yrr s [58] = true /\ (zpx s).length = 4 /\ (∀ k, k < 4 -> prtO s k) /\ zsq (ztc s) = 0 /\ 1 <= wnV (ztc s) /\ wnV (ztc s) <= 65535
open Classical in
noncomputable def spE (s : List UInt8) : Int := if ysf s then 0 else 4
noncomputable def spP (s : List UInt8) : Pl := if spE s = 0 then ⟨zng s 0, zng s 1, zng s 2, zng s 3, wnV (ztc s)⟩ else ⟨0, 0, 0, 0, 0⟩
theorem zqk {c : UInt8} : ∀ {s : List UInt8} {x : List UInt8}, x ∈ zb5 c s -> x.length <= s.length
 | [], x, h => by simp [zb5] at h; subst h; exact Nat.le_refl _
 | y :: s, x, h => by
   have ih := fun x h => zqk (c := c) (s := s) (x := x) h
   unfold zb5 at h
   split at h
   · rcases List.mem_cons.1 h with rfl | h
     · exact Nat.zero_le _
     · have := ih x h; simp; omega
   · split at h
     · rename_i z r hs
       rcases List.mem_cons.1 h with rfl | h
       · have := ih z (by rw [hs]; simp); simp; omega
       · have := ih x (by rw [hs]; simp [h]); simp; omega
     · rename_i hs; exact absurd hs (zql _ _)
theorem yll (c : UInt8) (s : List UInt8) (k : Nat) : (zxy (zb5 c s) k).length <= s.length := by
 rw [zxy, List.getD_eq_getElem?_getD]
 cases h : (zb5 c s)[k]? with
 | none => exact Nat.zero_le _
 | some x => exact zqk (List.mem_of_getElem? h)
theorem yqb (s : List UInt8) : 0 <= wnV s := by
 unfold wnV
 split
 · exact Int.natCast_nonneg _
 · exact Int.le_refl _
theorem yi6 (s sep : List UInt8) : (yi7 s sep).length <= s.length := by
 unfold yi7
 split
 · exact Nat.le_refl _
 · rw [List.length_take]; omega
theorem yi5 (s sep : List UInt8) : (ydn s sep).length <= s.length := by
 unfold ydn
 split
 · exact Nat.zero_le _
 · rw [List.length_drop]; omega
theorem zlq {s : List UInt8} (h : ¬ ysf s) : fits1 (plA std (spP s)) (.agg [.int .u8 0, .int .u8 0, .int .u8 0, .int .u8 0, .int .u16 0]) /\ 4 = spE s := by
 have e : spE s = 4 := if_neg h
 exact ⟨yjc (if_neg (by rw [e]; decide)), e.symm⟩
noncomputable def ylh (L : za9) : zdq := (92, fun xs => match xs with
 | [.str s] => some (L2 L upto 1000000 s, .tup [plA L (L spP s), .int .i64 (L spE s)])
 | _ => none)
def ipZ (s : List UInt8) (i k : Nat) : Int := if k < i then zng s k else 0
def yq3 (s : List UInt8) (i : Nat) : Prop := i <= 4 /\ ∀ k, k < i -> prtO s k
def parA (L : za9) (s : List UInt8) : Nat -> St -> Option Ann := fun id st => match id with
 | 0 => some ⟨Nat, fun i => [(30, .int .i64 (L zbh i)), (2, .ref 2 0), (4, .ref 4 0)],
     fun i => [(2, .box 32 [.int .u8 0, .int .u8 0, .int .u8 0, .int .u8 0, .int .u16 0]), (4, .box 32 [.int .u8 (L (L2 L ipZ s i) 0), .int .u8 (L (L2 L ipZ s i) 1), .int .u8 (L (L2 L ipZ s i) 2), .int .u8 (L (L2 L ipZ s i) 3), .int .u16 0])], [8, 28, 29], [],
     fun i => L2 L yq3 s i, fun i => L to4 i⟩
 | _ => none
theorem yfw : zbp Tryz.prog (ylh std) := by
 intro xs p r h hp
 dsimp only [ylh] at h |-
 split at h <;> cases h
 try simp only [L2, L3, std] at hp |-
 rename_i s
 have hp : s.length <= 1000000 := hp
 refine zaw (T := tt) (S := fun L => zb7 [yn6 L, ykn L, zzv L]) (lo := fun L => parA L s) (lb := noA) 5 (fn := Tryz.f92) rfl rfl (by kernel_rfl) (by kernel_rfl) rfl zad (za7 ⟨yi4, yf4, zzw, trivial⟩) (by kernel_rfl) ?_
 intro L P' Q' hL hP hQ
 have hcl := yi6 s [58]
 have hbl := yi5 s [58]
 (cbv; try simp only [syT, true_and, and_true])
 refine ⟨?_, ?_, fun h => ?_, fun h1 => ⟨fun h => ?_, fun h2 => ⟨⟨0, ?_⟩, fun i hi => ?_⟩⟩⟩
 · (subst hL; subst hQ; simp only [L2, L3, std] at *; try simp only [syS, reduceCtorEq, Int.reduceToNat, Int.reduceAdd, Int.reduceSub] at *)
   exact ⟨rfl, by show s.length <= _; omega⟩
 · (subst hL; subst hQ; simp only [L2, L3, std] at *; try simp only [syS, reduceCtorEq, Int.reduceToNat, Int.reduceAdd, Int.reduceSub] at *)
   exact ⟨rfl, by show (yi7 s [58]).length <= _; omega⟩
 · (subst hL; subst hQ; simp only [L2, L3, std] at *; try simp only [syS, reduceCtorEq, Int.reduceToNat, Int.reduceAdd, Int.reduceSub] at *)
   exact zlq fun x => by rw [x.1] at h; cases h
 · (subst hL; subst hQ; simp only [L2, L3, std] at *; try simp only [syS, reduceCtorEq, Int.reduceToNat, Int.reduceAdd, Int.reduceSub] at *)
   exact zlq fun x => h (by have := x.2.1; show ((zpx s).length : Int) = 4; omega)
 · (cbv; try simp only [syT, true_and, and_true])
   (subst hL; subst hQ; simp only [L2, L3, std] at *; try simp only [syS, reduceCtorEq, Int.reduceToNat, Int.reduceAdd, Int.reduceSub] at *)
   exact ⟨rfl, rfl, rfl, rfl, Nat.zero_le _, fun k hk => by omega⟩
 · cbv at hi
   (cbv; try simp only [syT, true_and, and_true])
   have hpl : ∀ k, (zxy (zpx s) k).length <= 1000000 := fun k => Nat.le_trans (yll _ _ k) (by omega)
   refine ⟨fun h3 => ⟨?_, ?_, fun h4 => ?_, fun h4 => ⟨fun h5 => ?_, fun h5 => ⟨?_, i + 1, ?_⟩⟩⟩, fun h3 => ⟨?_, fun h4 => ⟨fun h5 => ⟨fun h6 => ?_, fun h6 => ?_⟩, fun h5 => ?_⟩, fun h4 => ?_⟩⟩
   · (subst hL; subst hQ; simp only [L2, L3, std] at *; try simp only [syS, reduceCtorEq, Int.reduceToNat, Int.reduceAdd, Int.reduceSub] at *)
     omega
   · (subst hL; subst hQ; simp only [L2, L3, std] at *; try simp only [syS, reduceCtorEq, Int.reduceToNat, Int.reduceAdd, Int.reduceSub] at *)
     exact hpl i
   · (subst hL; subst hQ; simp only [L2, L3, std] at *; try simp only [syS, reduceCtorEq, Int.reduceToNat, Int.reduceAdd, Int.reduceSub] at *)
     exact zlq fun x => h4 (x.2.2.1 i (by omega)).1
   · (subst hL; subst hQ; simp only [L2, L3, std] at *; try simp only [syS, reduceCtorEq, Int.reduceToNat, Int.reduceAdd, Int.reduceSub] at *)
     have h5 : 255 < zng s i := h5
     exact zlq fun x => by have := (x.2.2.1 i (by omega)).2; omega
   · (subst hL; subst hQ; simp only [L2, L3, std] at *; try simp only [syS, reduceCtorEq, Int.reduceToNat, Int.reduceAdd, Int.reduceSub] at *)
     omega
   · (cbv; try simp only [syT, true_and, and_true])
     (subst hL; subst hQ; simp only [L2, L3, std] at *; try simp only [syS, reduceCtorEq, Int.reduceToNat, Int.reduceAdd, Int.reduceSub] at *)
     have h4 : yet s i = 0 := h4
     have h5 : zng s i <= 255 := h5
     have h0 : 0 <= zng s i := yqb _
     have hm : wnV (zxy (zlo (yi7 s [58]) [46]) i) % 256 = zng s i := by
       show zng s i % 256 = zng s i
       omega
     rw [hm]
     have cell : ∀ k, (cond (za8 i k) (zng s i) (ipZ s i k)) = ipZ s (i + 1) k := by
       intro k
       by_cases hik : i = k
       · subst hik
         rw [za3, ipZ, ipZ, if_pos (show i < i + 1 by omega)]; rfl
       · rw [zak hik]
         show ipZ s i k = _
         rw [ipZ, ipZ]
         by_cases hlt : k < i
         · rw [if_pos hlt, if_pos (by omega)]
         · rw [if_neg hlt, if_neg (by omega)]
     have hi4 : i < 4 := by omega
     refine ⟨cell 3, cell 2, cell 1, cell 0, by omega, ⟨by omega, fun k hk => ?_⟩, by show 4 - (i + 1) + 1 <= 4 - i; omega⟩
     by_cases hki : k = i
     · rw [hki]; exact ⟨h4, h5⟩
     · exact hi.2 k (by omega)
   · (subst hL; subst hQ; simp only [L2, L3, std] at *; try simp only [syS, reduceCtorEq, Int.reduceToNat, Int.reduceAdd, Int.reduceSub] at *)
     show (ydn s [58]).length <= 1000000
     omega
   all_goals
     (subst hL; subst hQ; simp only [L2, L3, std] at *; try simp only [syS, reduceCtorEq, Int.reduceToNat, Int.reduceAdd, Int.reduceSub] at *)
     have hi4 : i = 4 := by have := hi.1; omega
     subst hi4
   · have hok : ysf s := ⟨h1, by show yh0 (zpx s) = 4; have h2 : ((yh0 (zpx s) : Nat) : Int) = 4 := h2; omega, hi.2, h4, h5, h6⟩
     have hE : spE s = 0 := if_pos hok
     refine ⟨yjc ?_, hE.symm⟩
     rw [spP, if_pos hE, show wnV (ydn s [58]) % 65536 = wnV (ydn s [58]) by omega]
     rfl
   · exact zlq fun x => by have := x.2.2.2.2.2; have h6 : 65535 < wnV (ztc s) := h6; omega
   · exact zlq fun x => by have := x.2.2.2.2.1; have h5 : wnV (ztc s) < 1 := h5; omega
   · exact zlq fun x => h4 x.2.2.2.1
end Sy
end Go.Proofs.YtfonekpmkdkgnaaGreatDoor
namespace Go.Proofs.YtfonekpmkdkgnaaGreatDoor
namespace Sy
open Go Go.RowKit
set_option maxRecDepth 100000
set_option linter.unusedSimpArgs false
set_option linter.unusedVariables false
def zpa (L : za9) : zdq := (48, fun xs => match xs with
 | [.agg [.int .u8 a, .int .u8 b, .int .u8 c, .int .u8 d, .int .u16 p]] => some (L zqd (yok L a b c d p), .str (L plB (yok L a b c d p)))
 | _ => none)
theorem zt5 : zbp Tryz.prog (zpa std) := by
 intro xs p r h hp
 dsimp only [zpa] at h |-
 split at h <;> cases h
 try simp only [L2, L3, std] at hp |-
 rename_i a b c d p
 have hp : zqd ⟨a, b, c, d, p⟩ := hp
 refine zaw (T := tt) (S := noS) (lo := noA) (lb := noA) 5 (fn := Tryz.f48) rfl rfl (by kernel_rfl) (by kernel_rfl) rfl zad (zbl _) (by kernel_rfl) ?_
 (intro L P1 Q1 hL hP hQ; cbv; subst hL; simp only [L2, L3, std, syT]; subst hQ)
 (simp only [syS, reduceCtorEq, Int.reduceToNat, Int.reduceAdd, Int.reduceSub])
 obtain ⟨-, -, -, -, h1, h2⟩ := hp
 simp only at h1 h2
 refine ⟨by omega, by omega, by omega, by omega, by decide, by decide, ⟨by omega, fun i _ => ⟨_, rfl⟩⟩, ?_⟩
 have e1 : yt3 .u16 p 256 % 256 = p / 256 := by
   have e : yt3 .u16 p 256 = IntKind.u16.wrap (p.tdiv 256) := rfl
   rw [e, yp2, Int.tdiv_eq_ediv_of_nonneg h1]; omega
 have e2 : p.tmod 256 % 256 = p % 256 := by rw [Int.tmod_eq_emod_of_nonneg h1]; omega
 rw [e1, e2]
 rfl
theorem zhe {c : UInt8} : ∀ {u : List UInt8} {v : List UInt8}, (∀ x ∈ u, x ≠ c) -> zb5 c (u ++ c :: v) = u :: zb5 c v
 | [], v, _ => by simp [zb5]
 | x :: u, v, h => by
   have ih := zhe (u := u) (v := v) (fun y hy => h y (by simp [hy]))
   rw [List.cons_append, zb5, if_neg (h x (by simp)), ih]
theorem zww {c : UInt8} {u : List UInt8} (h : ∀ x ∈ u, x ≠ c) : zb5 c u = [u] := zgp fun k hk => h c (List.mem_of_getElem? hk) rfl
theorem yr4 {s : List UInt8} {c : UInt8} {m : Nat} (h0 : ∀ k, k < m -> s[k]? ≠ some c) (h : s[m]? = some c) : Lib.indexByte s c = m := by
 by_cases hn : Lib.indexByte s c < 0
 · exact absurd h (ycs hn m)
 · obtain ⟨h1, h2, h3⟩ := zrm hn
   rcases Nat.lt_trichotomy (Lib.indexByte s c).toNat m with hlt | heq | hgt
   · exact absurd h1 (h0 _ hlt)
   · omega
   · exact absurd h (h2 _ hgt)
theorem ym8 {u v : List UInt8} {c : UInt8} (h : ∀ x ∈ u, x ≠ c) : Lib.indexByte (u ++ c :: v) c = u.length := by
 refine yr4 (fun k hk => ?_) (by simp)
 rw [List.getElem?_append_left hk]
 intro e
 exact h c (List.mem_of_getElem? e) rfl
theorem yn7 {u v : List UInt8} (h : ∀ x ∈ u, x ≠ 58) : yi7 (u ++ 58 :: v) [58] = u /\ ydn (u ++ 58 :: v) [58] = v /\ yrr (u ++ 58 :: v) [58] = true := by
 have e : zkd (u ++ 58 :: v) [58] = u.length := ym8 h
 rw [yi7, ydn, yrr, e, if_neg (by omega), if_neg (by omega)]
 refine ⟨by simp, by simp, by simp⟩
theorem yr1 {u : List UInt8} (h : u.all isD = true) (c : UInt8) (hc : isD c = false) : ∀ x ∈ u, x ≠ c := by
 intro x hx e
 subst e
 rw [List.all_eq_true.1 h x hx] at hc
 cases hc
theorem zkr {n : Int} (c : UInt8) (hc : isD c = false) : ∀ x ∈ zdc n, x ≠ c := yr1 (yk1 n.toNat).1 c hc
def zrn (x : Pl) : List UInt8 := zdc x.a ++ 46 :: (zdc x.b ++ 46 :: (zdc x.c ++ 46 :: zdc x.d))
theorem ykh (x : Pl) : plT x = zrn x ++ 58 :: zdc x.p := by simp [plT, zrn]
theorem ymd (x : Pl) : ∀ y ∈ zrn x, y ≠ 58 := by
 have hd : isD 58 = false := by decide
 intro y hy
 simp only [zrn, List.mem_append, List.mem_cons] at hy
 rcases hy with h | rfl | h | rfl | h | rfl | h
 · exact zkr 58 hd y h
 · decide
 · exact zkr 58 hd y h
 · decide
 · exact zkr 58 hd y h
 · decide
 · exact zkr 58 hd y h
theorem zyl (x : Pl) : zlo (zrn x) [46] = [zdc x.a, zdc x.b, zdc x.c, zdc x.d] := by
 have hd : isD 46 = false := by decide
 show zb5 46 (zrn x) = _
 rw [zrn, zhe (zkr 46 hd), zhe (zkr 46 hd), zhe (zkr 46 hd), zww (zkr 46 hd)]
theorem yf0 {n : Int} (h : 0 <= n /\ n <= 255) : zll n := ⟨h.1, by omega⟩
theorem yko {x : Pl} (h : zqd x) : (1 <= x.p -> spE (plT x) = 0 /\ spP (plT x) = x) /\ (x.p = 0 -> spE (plT x) = 4) := by
 obtain ⟨c1, c2, c3⟩ := yn7 (u := zrn x) (v := zdc x.p) (ymd x)
 rw [<- ykh] at c1 c2 c3
 obtain ⟨ha, hb, hc, hd, hp⟩ := h
 have hh : zpx (plT x) = [zdc x.a, zdc x.b, zdc x.c, zdc x.d] := by rw [zpx, c1, zyl]
 have na := zfc (yf0 ha)
 have nb := zfc (yf0 hb)
 have nc := zfc (yf0 hc)
 have nd := zfc (yf0 hd)
 have np := zfc (n := x.p) ⟨hp.1, by omega⟩
 have hport : ztc (plT x) = zdc x.p := c2
 have v0 : zng (plT x) 0 = x.a := by rw [zng, hh]; exact na.2
 have v1 : zng (plT x) 1 = x.b := by rw [zng, hh]; exact nb.2
 have v2 : zng (plT x) 2 = x.c := by rw [zng, hh]; exact nc.2
 have v3 : zng (plT x) 3 = x.d := by rw [zng, hh]; exact nd.2
 have e0 : yet (plT x) 0 = 0 := by rw [yet, hh]; exact na.1
 have e1 : yet (plT x) 1 = 0 := by rw [yet, hh]; exact nb.1
 have e2 : yet (plT x) 2 = 0 := by rw [yet, hh]; exact nc.1
 have e3 : yet (plT x) 3 = 0 := by rw [yet, hh]; exact nd.1
 refine ⟨fun h1 => ?_, fun h0 => if_neg fun hk => ?_⟩
 · have hok : ysf (plT x) := by
     refine ⟨c3, by rw [hh]; rfl, fun k hk => ?_, by rw [hport]; exact np.1, by rw [hport, np.2]; exact h1, by rw [hport, np.2]; exact hp.2⟩
     match k, hk with
     | 0, _ => exact ⟨e0, by rw [v0]; exact ha.2⟩
     | 1, _ => exact ⟨e1, by rw [v1]; exact hb.2⟩
     | 2, _ => exact ⟨e2, by rw [v2]; exact hc.2⟩
     | 3, _ => exact ⟨e3, by rw [v3]; exact hd.2⟩
   have hE : spE (plT x) = 0 := if_pos hok
   refine ⟨hE, ?_⟩
   rw [spP, if_pos hE, v0, v1, v2, v3, hport, np.2]
 · have := hk.2.2.2.2.1
   rw [hport, np.2, h0] at this
   omega
theorem zkj : ∀ l : List CV, ze5 l = true ↔ ∀ i, i < l.length -> zgd (zd9 l i) = true
 | [] => by rw [ze5]; simp
 | v :: l => by
   rw [ze5, Bool.and_eq_true, zkj l]
   refine ⟨fun ⟨h1, h2⟩ i hi => ?_, fun h => ⟨h 0 (by simp), fun i hi => h (i + 1) (by simpa using hi)⟩⟩
   cases i with
   | zero => exact h1
   | succ i => exact h2 i (by simpa using hi)
def yhb (l : List CV) : Int := if ze5 l = true then -1 else (l.findIdx fun v => !zgd v : Nat)
def ys2 (l : List CV) (i : Nat) : Prop := i <= l.length /\ ∀ j, j < i -> zgd (zd9 l j) = true
theorem yma {l : List CV} {i : Nat} (hi : i < l.length) (h : ∀ j, j < i -> zgd (zd9 l j) = true) (hn : zgd (zd9 l i) = false) : yhb l = (i : Int) := by
 have hb : ¬ ze5 l = true := by
   rw [zkj]
   intro h2
   have := h2 i hi
   rw [hn] at this; cases this
 rw [yhb, if_neg hb]
 congr 1
 rw [List.findIdx_eq hi]
 have get : ∀ (j : Nat) (hj : j < l.length), l[j] = zd9 l j := by
   intro j hj
   rw [zd9, List.getD_eq_getElem?_getD, List.getElem?_eq_getElem hj]; rfl
 refine ⟨by rw [get i hi, hn]; rfl, fun j hj => ?_⟩
 have hj' := h j hj
 rw [get j (by omega), hj']; rfl
theorem yha {l : List CV} (h : ∀ j, j < l.length -> zgd (zd9 l j) = true) : yhb l = -1 := by rw [yhb, if_pos ((zkj l).2 h)]
theorem ym9 (l : List CV) : (0 <= yhb l) = (ze5 l = false) := by
 unfold yhb
 split
 · rename_i h; rw [h]; simp
 · rename_i h; simp at h; rw [h]; simp
def ysx (N : Nat) (L : za9) : zdq := (119, fun xs => match xs with
 | [.agg [.int .i64 k, .int .u64 n, .str s, x]] => some (L okL x /\ L2 L zox N (mkV L k n s x), .bool (L not (L zgd (mkV L k n s x))))
 | _ => none)
def ysr (N : Nat) (L : za9) : zdq := (141, fun xs => match xs with
 | [x, .fn 119 [] []] => some (L okL x /\ L2 L zsv N (L rdL x), .int .i64 (L yhb (L rdL x)))
 | _ => none)
def yuz (N : Nat) (L : za9) : zdq := (118, fun xs => match xs with
 | [x, .fn 119 [] []] => some (L okL x /\ L2 L zsv N (L rdL x), .bool (L not (L ze5 (L rdL x))))
 | _ => none)
def zon (N : Nat) (L : za9) : zdq := (81, fun xs => match xs with
 | [.agg [.int .i64 k, .int .u64 n, .str s, x]] => some (L okL x /\ L2 L zox N (mkV L k n s x), .bool (L zgd (mkV L k n s x)))
 | _ => none)
theorem yu3 (l : List CV) : ieq ((lenL l : Nat) : Int) 0 = l.isEmpty := by
 cases l with
 | nil => rfl
 | cons v l =>
   simp [lenL, ieq]
   omega
theorem yr3 (a b : Int) : (ile a b = false) = ¬ a <= b := by simp [ile]
theorem yvb {N : Nat} (ih : zbp Tryz.prog (zon N std)) : zbp Tryz.prog (ysx N std) := by
 intro xs p r h hp
 unfold ysx at h
 simp only at h
 split at h
 rotate_left
 · cases h
 rename_i k n s x
 cases h
 obtain ⟨ho, hz⟩ := hp
 refine ysy ho ?_
 rw [show mkV std k n s x = .mk k n s (rdL x) from rfl] at hz |-
 generalize rdL x = l at hz |-
 have hz : zox N (.mk k n s l) := hz
 refine za4 (xs := fun L => [.agg [.int .i64 k, .int .u64 n, .str s, cvL L l]]) (T := tt) (S := fun L => zb7 [zon N L]) (lo := noA) (lb := noA) 5 (fn := Tryz.f119) rfl rfl (by kernel_rfl) (by kernel_rfl) rfl zad (za7 ⟨ih, trivial⟩) (by kernel_rfl) ?_
 intro L P' Q' hL hP hQ
 (cbv; try simp only [syT, true_and, and_true])
 (subst hL; subst hQ; simp only [L2, L3, std] at *; try simp only [syS, reduceCtorEq, Int.reduceToNat, Int.reduceAdd, Int.reduceSub] at *)
 rw [rdl, mkl]
 exact ⟨⟨okl l, hz⟩, rfl⟩
def ifA (L : za9) (l : List CV) : Nat -> St -> Option Ann := fun id s => match id with
 | 0 => some ⟨Nat, fun i => [(8, .int .i64 (L zbh i))], fun i => [], [0, 1, 6, 7], [],
     fun i => L2 L ys2 l i, fun i => L2 L (fun (l : List CV) (i : Nat) => l.length - i) l i⟩
 | _ => none
theorem yug {N : Nat} (ih : zbp Tryz.prog (ysx N std)) : zbp Tryz.prog (ysr N std) := by
 intro xs p r h hp
 unfold ysr at h
 simp only at h
 split at h
 rotate_left
 · cases h
 rename_i x
 cases h
 obtain ⟨ho, hz⟩ := hp
 refine ysz ho ?_
 have hz : zsv N (rdL x) := hz
 show za5 _ _ _ (.int .i64 (yhb (rdL x)))
 generalize rdL x = l at hz |-
 refine za4 (T := tt) (S := fun L => zb7 [ysx N L]) (lo := fun L => ifA L l) (lb := noA) 5 (fn := Tryz.f141) (xs := fun L => [cvL L l, .fn 119 [] []]) rfl rfl (by kernel_rfl) (by kernel_rfl) rfl zad
   (za7 ⟨ih, trivial⟩) (by kernel_rfl) ?_
 intro L P' Q' hL hP hQ
 (cbv; try simp only [syT, true_and, and_true])
 refine ⟨⟨0, ?_⟩, fun i hi => ?_⟩
 · (cbv; try simp only [syT, true_and, and_true])
   (subst hL; subst hQ; simp only [L2, L3, std] at *; try simp only [syS, reduceCtorEq, Int.reduceToNat, Int.reduceAdd, Int.reduceSub] at *)
   exact ⟨Nat.zero_le _, fun j hj => by omega⟩
 · cbv at hi
   (cbv; try simp only [syT, true_and, and_true])
   refine ⟨fun hlt => ⟨?_, ⟨?_, ?_⟩, fun hb => ?_, fun hb => ⟨i + 1, ?_⟩⟩, fun hge => ?_⟩
   · (subst hL; subst hQ; simp only [L2, L3, std] at *; try simp only [syS, reduceCtorEq, Int.reduceToNat, Int.reduceAdd, Int.reduceSub] at *)
     omega
   · (subst hL; subst hQ; simp only [L2, L3, std] at *; try simp only [syS, reduceCtorEq, Int.reduceToNat, Int.reduceAdd, Int.reduceSub] at *)
     exact (zk0 _).2
   · (subst hL; subst hQ; simp only [L2, L3, std] at *; try simp only [syS, reduceCtorEq, Int.reduceToNat, Int.reduceAdd, Int.reduceSub] at *)
     rw [zcb]
     exact zr7 hz (by have : lenL l = l.length := rfl; omega)
   · (subst hL; subst hQ; simp only [L2, L3, std] at *; try simp only [syS, reduceCtorEq, Int.reduceToNat, Int.reduceAdd, Int.reduceSub] at *)
     rw [zci] at hb
     exact (yma (by have : lenL l = l.length := rfl; omega) hi.2 hb).symm
   · (cbv; try simp only [syT, true_and, and_true])
     (subst hL; subst hQ; simp only [L2, L3, std] at *; try simp only [syS, reduceCtorEq, Int.reduceToNat, Int.reduceAdd, Int.reduceSub] at *)
     rw [zci] at hb
     have : lenL l = l.length := rfl
     have := zma l
     have h1 := hz.1
     have h2 := hz.2
     refine ⟨by omega, ⟨by omega, fun j hj => ?_⟩, by omega⟩
     by_cases e : j = i
     · rw [e]; exact hb
     · exact hi.2 j (by omega)
   · (subst hL; subst hQ; simp only [L2, L3, std] at *; try simp only [syS, reduceCtorEq, Int.reduceToNat, Int.reduceAdd, Int.reduceSub] at *)
     have : lenL l = l.length := rfl
     exact (yha fun j hj => hi.2 j (by omega)).symm
theorem yv0 {N : Nat} (ih : zbp Tryz.prog (ysr N std)) : zbp Tryz.prog (yuz N std) := by
 intro xs p r h hp
 unfold yuz at h
 simp only at h
 split at h
 rotate_left
 · cases h
 rename_i x
 cases h
 obtain ⟨ho, hz⟩ := hp
 refine ysz ho ?_
 have hz : zsv N (rdL x) := hz
 show za5 _ _ _ (.bool (not (ze5 (rdL x))))
 generalize rdL x = l at hz |-
 refine za4 (xs := fun L => [cvL L l, .fn 119 [] []]) (T := tt) (S := fun L => zb7 [ysr N L]) (lo := noA) (lb := noA) 5 (fn := Tryz.f118) rfl rfl (by kernel_rfl) (by kernel_rfl) rfl zad (za7 ⟨ih, trivial⟩) (by kernel_rfl) ?_
 intro L P' Q' hL hP hQ
 (cbv; try simp only [syT, true_and, and_true])
 (subst hL; subst hQ; simp only [L2, L3, std] at *; try simp only [syS, reduceCtorEq, Int.reduceToNat, Int.reduceAdd, Int.reduceSub] at *)
 rw [rdl]
 refine ⟨⟨okl l, hz⟩, ?_⟩
 have := ym9 l
 cases hb : ze5 l with
 | true =>
   rw [hb] at this
   simp only [Bool.true_eq_false, eq_iff_iff, iff_false] at this
   have h : ile 0 (yhb l) = false := by rw [yr3]; exact this
   rw [h]; rfl
 | false =>
   rw [hb] at this
   simp only [eq_iff_iff, iff_true] at this
   simpa [ile] using this
theorem yef : ∀ N, zbp Tryz.prog (zon N std) := by
 intro N
 induction N with
 | zero =>
   intro xs p r h hp
   unfold zon at h
   simp only at h
   split at h
   · rename_i k n s x
     cases h
     have h1 : sizeC (mkV std k n s x) <= 0 := hp.2.1
     have := zdr (mkV std k n s x)
     omega
   · cases h
 | succ N ih =>
   intro xs p r h hp
   unfold zon at h
   simp only at h
   split at h
   rotate_left
   · cases h
   rename_i k n s x
   cases h
   obtain ⟨ho, hz⟩ := hp
   refine ysy ho ?_
   rw [show mkV std k n s x = .mk k n s (rdL x) from rfl] at hz |-
   generalize rdL x = l at hz |-
   have hz : zox (N + 1) (.mk k n s l) := hz
   refine za4 (T := tt) (S := fun L => zb7 [yuz N L]) (lo := noA) (lb := noA) 5 (fn := Tryz.f81) (xs := fun L => [.agg [.int .i64 k, .int .u64 n, .str s, cvL L l]]) rfl rfl (by kernel_rfl) (by kernel_rfl) rfl zad
     (za7 ⟨yv0 (yug (yvb ih)), trivial⟩) (by kernel_rfl) ?_
   intro L P' Q' hL hP hQ
   (cbv; try simp only [syT, true_and, and_true])
   (subst hL; subst hQ; simp only [L2, L3, std] at *; try simp only [syS, reduceCtorEq, Int.reduceToNat, Int.reduceAdd, Int.reduceSub] at *)
   simp only [rdl, yu3]
   rw [zbz] at hz
   rw [zgd]
   by_cases h1 : k = 1
   · simp [h1]
     exact ⟨fun a _ => a, fun a b => absurd b a⟩
   · by_cases h2 : k = 2
     · simp [h2]
       exact ⟨fun a _ => a, fun a b => absurd b a⟩
     · by_cases h3 : k = 3
       · simp [h3]
         refine ⟨fun h4 => ⟨fun h5 => ⟨⟨okl l, hz.1⟩, by simp [h4, h5]⟩, fun h5 => by simp [h5]⟩, fun h4 => by simp [h4]⟩
       · simp [h1, h2, h3]
theorem zf7 : ∀ a b : List CV, zf8 a b = true ↔ a.length = b.length /\ ∀ i, i < a.length -> zqt (zd9 a i) (zd9 b i) = true
 | [], b => by rw [zf8]; cases b <;> simp
 | v :: a, [] => by rw [zf8]; simp
 | v :: a, w :: b => by
   rw [zf8, Bool.and_eq_true, zf7 a b]
   simp only [List.length_cons]
   refine ⟨fun ⟨h1, h2, h3⟩ => ⟨by omega, fun i hi => ?_⟩, fun ⟨h1, h2⟩ => ⟨h2 0 (by omega), by omega, fun i hi => h2 (i + 1) (by omega)⟩⟩
   cases i with
   | zero => exact h1
   | succ i => exact h3 i (by omega)
def ypj (a b : List CV) (i : Nat) : Prop := i <= a.length /\ a.length = b.length /\ ∀ j, j < i -> zqt (zd9 a j) (zd9 b j) = true
theorem yb5 {a b : List CV} {i : Nat} (hi : i < a.length) (h : zqt (zd9 a i) (zd9 b i) = false) : zf8 a b = false := by
 cases e : zf8 a b with
 | false => rfl
 | true => rw [((zf7 a b).1 e).2 i hi] at h; cases h
def zlx (N : Nat) (L : za9) : zdq := (31, fun xs => match xs with
 | [.agg [.int .i64 k, .int .u64 n, .str s, x], .agg [.int .i64 k', .int .u64 n', .str s', y]] => some (L okL x /\ L okL y /\ L2 L zox N (mkV L k n s x), .bool (L2 L zqt (mkV L k n s x) (mkV L k' n' s' y)))
 | _ => none)
theorem zfw (k n k' n' : Int) (s s' : List UInt8) (l l' : List CV) : zqt (.mk k n s l) (.mk k' n' s' l') = (decide (k = k') && decide (n = n') && decide (s = s') && zf8 l l') := by rw [zqt]; rfl
def ypl (L : za9) (l m : List CV) : Nat -> St -> Option Ann := fun id s => match id with
 | 0 => some ⟨Nat, fun i => [(37, .int .i64 (L zbh i))], fun i => [], [2, 3, 35, 36], [2, 3],
     fun i => L3 L ypj l m i, fun i => L2 L (fun (l : List CV) (i : Nat) => l.length - i) l i⟩
 | _ => none
theorem zxk : ∀ N, zbp Tryz.prog (zlx N std) := by
 intro N
 induction N with
 | zero =>
   intro xs p r h hp
   unfold zlx at h
   simp only at h
   split at h
   · rename_i k n s x k' n' s' y
     cases h
     have h1 : sizeC (mkV std k n s x) <= 0 := hp.2.2.1
     have := zdr (mkV std k n s x)
     omega
   · cases h
 | succ N ih =>
   intro xs p r h hp
   unfold zlx at h
   simp only at h
   split at h
   rotate_left
   · cases h
   rename_i k n s x k' n' s' y
   cases h
   obtain ⟨ho, ho', hz⟩ := hp
   refine yvg ho ho' ?_
   rw [show mkV std k n s x = .mk k n s (rdL x) from rfl] at hz |-
   rw [show mkV std k' n' s' y = .mk k' n' s' (rdL y) from rfl]
   generalize rdL x = l at hz |-
   generalize rdL y = m
   have hz : zox (N + 1) (.mk k n s l) := hz
   refine za4 (T := tt) (S := fun L => zb7 [zlx N L]) (lo := fun L => ypl L l m) (lb := noA) 5 (fn := Tryz.f31) (xs := fun L => [.agg [.int .i64 k, .int .u64 n, .str s, cvL L l], .agg [.int .i64 k', .int .u64 n', .str s', cvL L m]]) rfl rfl (by kernel_rfl) (by kernel_rfl) rfl zad
     (za7 ⟨ih, trivial⟩) (by kernel_rfl) ?_
   intro L P' Q' hL hP hQ
   (cbv; try simp only [syT, true_and, and_true])
   refine ⟨fun h1 => ?_, fun h1 => ⟨fun h2 => ?_, fun h2 => ⟨fun h3 => ?_, fun h3 => ⟨fun h4 => ?_, fun h4 => ⟨⟨0, ?_⟩, fun i hi => ?_⟩⟩⟩⟩⟩
   · (subst hL; subst hQ; simp only [L2, L3, std] at *; try simp only [syS, reduceCtorEq, Int.reduceToNat, Int.reduceAdd, Int.reduceSub] at *)
     rw [zfw]; simp [h1]
   · (subst hL; subst hQ; simp only [L2, L3, std] at *; try simp only [syS, reduceCtorEq, Int.reduceToNat, Int.reduceAdd, Int.reduceSub] at *)
     rw [zfw]; simp [h2]
   · (subst hL; subst hQ; simp only [L2, L3, std] at *; try simp only [syS, reduceCtorEq, Int.reduceToNat, Int.reduceAdd, Int.reduceSub] at *)
     rw [zfw]; simp [h3]
   · (subst hL; subst hQ; simp only [L2, L3, std] at *; try simp only [syS, reduceCtorEq, Int.reduceToNat, Int.reduceAdd, Int.reduceSub] at *)
     have : zf8 l m = false := by
       cases e : zf8 l m with
       | false => rfl
       | true => exact absurd (by rw [show lenL l = l.length from rfl, show lenL m = m.length from rfl, ((zf7 l m).1 e).1]) h4
     rw [zfw, this]; simp
   · (cbv; try simp only [syT, true_and, and_true])
     (subst hL; subst hQ; simp only [L2, L3, std] at *; try simp only [syS, reduceCtorEq, Int.reduceToNat, Int.reduceAdd, Int.reduceSub] at *)
     exact ⟨Nat.zero_le _, by have : lenL l = l.length := rfl; have : lenL m = m.length := rfl; omega, fun j hj => by omega⟩
   · cbv at hi
     (cbv; try simp only [syT, true_and, and_true])
     refine ⟨fun hlt => ⟨?_, ?_, ⟨?_, ?_, ?_⟩, fun hb => ?_, fun hb => ⟨i + 1, ?_⟩⟩, fun hge => ?_⟩
     · (subst hL; subst hQ; simp only [L2, L3, std] at *; try simp only [syS, reduceCtorEq, Int.reduceToNat, Int.reduceAdd, Int.reduceSub] at *)
       omega
     · (subst hL; subst hQ; simp only [L2, L3, std] at *; try simp only [syS, reduceCtorEq, Int.reduceToNat, Int.reduceAdd, Int.reduceSub] at *)
       have : lenL l = l.length := rfl
       have : lenL m = m.length := rfl
       omega
     · (subst hL; subst hQ; simp only [L2, L3, std] at *; try simp only [syS, reduceCtorEq, Int.reduceToNat, Int.reduceAdd, Int.reduceSub] at *)
       exact (zk0 _).2
     · (subst hL; subst hQ; simp only [L2, L3, std] at *; try simp only [syS, reduceCtorEq, Int.reduceToNat, Int.reduceAdd, Int.reduceSub] at *)
       exact (zk0 _).2
     · (subst hL; subst hQ; simp only [L2, L3, std] at *; try simp only [syS, reduceCtorEq, Int.reduceToNat, Int.reduceAdd, Int.reduceSub] at *)
       rw [zcb]
       rw [zbz] at hz
       exact zr7 hz.1 (by have : lenL l = l.length := rfl; omega)
     · (subst hL; subst hQ; simp only [L2, L3, std] at *; try simp only [syS, reduceCtorEq, Int.reduceToNat, Int.reduceAdd, Int.reduceSub] at *)
       rw [zcb, zcb] at hb
       rw [zfw, yb5 (i := i) (by have : lenL l = l.length := rfl; omega) hb]; simp
     · (cbv; try simp only [syT, true_and, and_true])
       (subst hL; subst hQ; simp only [L2, L3, std] at *; try simp only [syS, reduceCtorEq, Int.reduceToNat, Int.reduceAdd, Int.reduceSub] at *)
       rw [zcb, zcb] at hb
       rw [zbz] at hz
       have : lenL l = l.length := rfl
       have := zma l
       have h1 := hz.1.1
       have h2 := hz.1.2
       refine ⟨by omega, ⟨by omega, hi.2.1, fun j hj => ?_⟩, by omega⟩
       by_cases e : j = i
       · rw [e]; exact hb
       · exact hi.2.2 j (by omega)
     · (subst hL; subst hQ; simp only [L2, L3, std] at *; try simp only [syS, reduceCtorEq, Int.reduceToNat, Int.reduceAdd, Int.reduceSub] at *)
       have : lenL l = l.length := rfl
       have : zf8 l m = true := (zf7 l m).2 ⟨hi.2.1, fun j hj => hi.2.2 j (by omega)⟩
       rw [zfw, this]; simp [h1, h2, h3]
theorem znw : ∀ (k n : Nat), n < 128 ^ (k + 1) -> (ze3 n).length <= k + 1
 | 0, n, h => by rw [zbk (by omega)]; simp
 | k + 1, n, h => by
   by_cases h1 : n < 128
   · rw [zbk h1]; simp
   · rw [zhf (by omega), List.length_cons]
     have := znw k (n / 128) (by rw [Nat.div_lt_iff_lt_mul (by omega)]; rw [Nat.pow_succ] at h; exact h)
     omega
theorem zju {n : Int} (h : zd6 n) : (zb8 n).length <= 10 := znw 9 n.toNat (by
 have := h.2
 have := h.1
 rw [show (128 : Nat) ^ (9 + 1) = 1180591620717411303424 from by decide]
 omega)
def cb (s : List UInt8) (i : Nat) : Nat := (s.getD i 0).toNat
def lng (s : List UInt8) : Nat -> Nat -> Nat -> Nat × Nat × Nat
 | 0, _, _ => (0, 0, 4)
 | f + 1, i, n =>
   if s.length <= i then (0, 0, 3)
   else if i = 9 /\ 1 < cb s i then (0, 0, 4)
   else if 128 <= cb s i then lng s f (i + 1) (n + cb s i % 128 * 2 ^ (7 * i))
   else if 0 < cb s i \/ i = 0 then (n + cb s i % 128 * 2 ^ (7 * i), i + 1, 0)
   else (0, 0, 4)
def ylu (s : List UInt8) : Int := (lng s 10 0 0).1
def yu1 (s : List UInt8) : Int := (lng s 10 0 0).2.1
def ysp (s : List UInt8) : Int := (lng s 10 0 0).2.2
theorem yrx (p : List UInt8) (c : UInt8) (r : List UInt8) : cb (p ++ c :: r) p.length = c.toNat := by
 unfold cb
 rw [List.getD_eq_getElem?_getD, List.getElem?_append_right (Nat.le_refl _), Nat.sub_self]
 rfl
theorem zrb (r : List UInt8) : ∀ (f m n0 : Nat) (p : List UInt8), f + p.length = 10 -> m * 2 ^ (7 * p.length) < 2 ^ 64 -> (0 < m \/ p.length = 0) ->
   lng (p ++ (ze3 m ++ r)) f p.length n0 = (n0 + m * 2 ^ (7 * p.length), p.length + (ze3 m).length, 0)
 | 0, m, n0, p, hf, hm, h0 => by
   have : p.length = 10 := by omega
   rw [this] at hm h0
   have : 2 ^ (7 * 10) <= m * 2 ^ (7 * 10) := Nat.le_mul_of_pos_left _ (by omega)
   omega
 | f + 1, m, n0, p, hf, hm, h0 => by
   by_cases hb : 128 <= m
   · rw [zhf hb]
     have hc : cb (p ++ (UInt8.ofNat (m % 128 + 128) :: ze3 (m / 128) ++ r)) p.length = m % 128 + 128 := by
       rw [List.cons_append, yrx]
       simp; omega
     have h9 : p.length ≠ 9 := by
       intro h
       rw [h] at hm
       have : 128 * 2 ^ (7 * 9) <= m * 2 ^ (7 * 9) := Nat.mul_le_mul_right _ hb
       omega
     rw [lng, if_neg (by simp), hc, if_neg (by omega), if_pos (by omega)]
     have e : p ++ (UInt8.ofNat (m % 128 + 128) :: ze3 (m / 128) ++ r) = (p ++ [UInt8.ofNat (m % 128 + 128)]) ++ (ze3 (m / 128) ++ r) := by simp
     have hl : (p ++ [UInt8.ofNat (m % 128 + 128)]).length = p.length + 1 := by simp
     have hp : 2 ^ (7 * (p.length + 1)) = 128 * 2 ^ (7 * p.length) := by rw [show 7 * (p.length + 1) = 7 + 7 * p.length by omega, Nat.pow_add]
     have hd : m / 128 * (128 * 2 ^ (7 * p.length)) + m % 128 * 2 ^ (7 * p.length) = m * 2 ^ (7 * p.length) := by
       rw [<- Nat.mul_assoc, <- Nat.add_mul]
       congr 1; omega
     have ih := zrb r f (m / 128) (n0 + (m % 128 + 128) % 128 * 2 ^ (7 * p.length)) (p ++ [UInt8.ofNat (m % 128 + 128)]) (by rw [hl]; omega) (by rw [hl, hp]; omega) (.inl (by omega))
     rw [hl] at ih
     rw [e, ih, hp, List.length_cons, show (m % 128 + 128) % 128 = m % 128 by omega]
     refine Prod.ext ?_ (Prod.ext ?_ rfl)
     · show n0 + m % 128 * 2 ^ (7 * p.length) + m / 128 * (128 * 2 ^ (7 * p.length)) = n0 + m * 2 ^ (7 * p.length)
       omega
     · show p.length + 1 + _ = p.length + (_ + 1)
       omega
   · rw [zbk (by omega)]
     have hc : cb (p ++ ([UInt8.ofNat m] ++ r)) p.length = m := by
       rw [List.singleton_append, yrx]
       simp; omega
     have h9 : ¬ (p.length = 9 /\ 1 < m) := by
       rintro ⟨h, h1⟩
       rw [h] at hm
       have : 2 * 2 ^ (7 * 9) <= m * 2 ^ (7 * 9) := Nat.mul_le_mul_right _ h1
       omega
     rw [lng, if_neg (by simp), hc, if_neg h9, if_neg (by omega), if_pos h0, Nat.mod_eq_of_lt (by omega)]
     rfl
theorem yqq {m : Int} (h : zd6 m) (r : List UInt8) : ylu (zb8 m ++ r) = m /\ yu1 (zb8 m ++ r) = ((zb8 m).length : Int) /\ ysp (zb8 m ++ r) = 0 := by
 have h0 := h.1
 have h1 := h.2
 have := zrb r 10 m.toNat 0 [] rfl (by simp; omega) (.inr rfl)
 simp only [List.nil_append, List.length_nil, Nat.zero_add, Nat.mul_zero, Nat.pow_zero, Nat.mul_one] at this
 unfold ylu yu1 ysp zb8
 rw [this]
 refine ⟨?_, rfl, rfl⟩
 show ((m.toNat : Nat) : Int) = m
 omega
mutual
def wfV : CV -> Prop
 | .mk _ n s l => zd6 n /\ s.length <= 9223372036854775807 /\ zuw l
def zuw : List CV -> Prop
 | [] => True
 | v :: l => wfV v /\ zuw l
end
theorem yiq : ∀ {l : List CV} {i : Nat}, zuw l -> i < l.length -> wfV (zd9 l i)
 | [], i, _, h => by simp at h
 | v :: l, 0, w, _ => by rw [zuw] at w; exact w.1
 | v :: l, i + 1, w, h => by rw [zuw] at w; exact yiq (l := l) w.2 (by simpa using h)
theorem zjq (l : List CV) : ∀ i, (zhy l i).length <= (zb0 l).length := by
 intro i
 have := zjr (l.take i) (l.drop i)
 rw [List.take_append_drop] at this
 rw [this, List.length_append, zhy]; omega
theorem zao (k n : Int) (s : List UInt8) (l : List CV) : zc8 (.mk k n s l) = zh9 k ++ if k = 1 then zb8 n else if k = 2 then zb8 s.length ++ s else zb8 l.length ++ zb0 l := by rw [zc8]
def ya7 (v : CV) : Prop := wfV v /\ (zc8 v).length <= 90000000
theorem zzx {k n : Int} {s : List UInt8} {l : List CV} : ya7 (.mk k n s l) = ((zd6 n /\ s.length <= 9223372036854775807 /\ zuw l) /\ (zc8 (.mk k n s l)).length <= 90000000) := by
 unfold ya7; rw [wfV]
theorem zin {x : Int} (h : 0 <= x) (h1 : x < 18446744073709551616) : x % 18446744073709551616 = x := Int.emod_eq_of_lt h h1
theorem zjo {k n : Int} {s : List UInt8} {l : List CV} (h : wfV (.mk k n s l)) : (s.length : Int) % 18446744073709551616 = s.length := by
 rw [wfV] at h
 exact zin (by omega) (by omega)
theorem zms {N : Nat} {k n : Int} {s : List UInt8} {l : List CV} (h : zox (N + 1) (.mk k n s l)) : zd6 ((l.length : Nat) : Int) := by
 rw [zbz] at h
 have := zma l
 have h1 := h.1.1
 have h2 := h.1.2
 exact ⟨by omega, by omega⟩
theorem zjp {N : Nat} {k n : Int} {s : List UInt8} {l : List CV} (h : zox (N + 1) (.mk k n s l)) : ((lenL l : Nat) : Int) % 18446744073709551616 = ((l.length : Nat) : Int) := by
 have := zms h
 exact zin this.1 this.2
theorem yis {k n : Int} {s : List UInt8} {l : List CV} (h : ya7 (.mk k n s l)) (h1 : k ≠ 1) (h2 : k ≠ 2) {i : Nat} (hi : i < l.length) : ya7 (zd9 l i) := by
 rw [zzx] at h
 refine ⟨yiq h.1.2.2 hi, ?_⟩
 have h3 := h.2
 have h4 := zeg hi
 have h5 := zjq l (i + 1)
 rw [h4, List.length_append] at h5
 rw [zao, if_neg h1, if_neg h2] at h3
 simp only [List.length_append] at h3
 omega
def zpb (b : List UInt8) (k : Int) (l : List CV) (i : Nat) : List UInt8 := b ++ zh9 k ++ zb8 l.length ++ zhy l i
def putA (L : za9) (b : List UInt8) (k : Int) (l : List CV) : Nat -> St -> Option Ann := fun id s => match id with
 | 1 => some ⟨Nat, fun i => [(23, .int .i64 (L zbh i))], fun i => [(500000, .box 137 [.ref 500000 0, .sl 901 1 0 (L lenN (L (L3 L zpb b k l) i))]), (901, .row 5 1 (L lenN (L (L3 L zpb b k l) i)) (fun j _ => .int .u8 (L2 L zbu (L (L3 L zpb b k l) i) j)))], [0, 21, 22], [],
     fun i => L2 L (fun (l : List CV) i => i <= l.length) l i, fun i => L2 L (fun (l : List CV) (i : Nat) => l.length - i) l i⟩
 | _ => none
def zr2 (N : Nat) (L : za9) : zuv := (83, fun raw ob => match raw with
 | [.ref id 0, .agg [.int .i64 k, .int .u64 n, .str s, x]] => match yed L ob id with
   | some none => some ⟨[.ref 500000 0, .agg [.int .i64 k, .int .u64 n, .str s, x]], yov, L okL x /\ L2 L zox N (mkV L k n s x) /\ L ya7 (mkV L k n s x), .tup [], zup L (L zc8 (mkV L k n s x))⟩
   | some (some l) => some ⟨[.ref 500000 0, .agg [.int .i64 k, .int .u64 n, .str s, x]], bld L l, L okL x /\ L2 L zox N (mkV L k n s x) /\ L ya7 (mkV L k n s x) /\ L2 L zfy l (L zc8 (mkV L k n s x)), .tup [], zup L (L2 L zaa l (L zc8 (mkV L k n s x)))⟩
   | none => none
 | _ => none)
theorem ypn {b : List UInt8} {k n : Int} {s : List UInt8} {l : List CV} (h : zfy b (zc8 (.mk k n s l))) : zfy b (zcp (k % 256)) := by
 rw [zao] at h
 unfold zfy at h |-
 have : (zh9 k).length = 1 := rfl
 have : (zcp (k % 256)).length = 1 := rfl
 rw [List.length_append] at h
 omega
theorem zv5 {b q : List UInt8} {k : Int} (h : zfy b (zh9 k ++ q)) : zfy (zaa b (zcp (k % 256))) q := by
 unfold zfy zaa at *
 have : (zh9 k).length = 1 := rfl
 have : (zcp (k % 256)).length = 1 := rfl
 rw [List.length_append] at h |-
 omega
theorem yj5 {b q r : List UInt8} {k : Int} (h : zfy b (zh9 k ++ (q ++ r))) : zfy (zaa b (zcp (k % 256))) q := by
 unfold zfy zaa at *
 have : (zh9 k).length = 1 := rfl
 have : (zcp (k % 256)).length = 1 := rfl
 rw [List.length_append, List.length_append] at h
 rw [List.length_append]
 omega
theorem zv4 {x y : List UInt8} (h : x = y) : (lenN x = lenN y /\ ∀ i j : Nat, i < lenN y -> j < 1 -> AV.int .u8 (zbu x i) = AV.int .u8 (zbu y i)) /\ lenN x = lenN y := by
 subst h; exact ⟨⟨rfl, fun _ _ _ _ => rfl⟩, rfl⟩
theorem yj0 {b q t : List UInt8} {k : Int} (h : t = zh9 k ++ q) : (lenN (zaa (zaa b (zcp (k % 256))) q) = lenN (zaa b t) /\ ∀ i j : Nat, i < lenN (zaa b t) -> j < 1 -> AV.int .u8 (zbu (zaa (zaa b (zcp (k % 256))) q) i) = AV.int .u8 (zbu (zaa b t) i)) /\ lenN (zaa (zaa b (zcp (k % 256))) q) = lenN (zaa b t) :=
 zv4 (by rw [h]; unfold zaa; rw [List.append_assoc]; rfl)
theorem yj1 {q t : List UInt8} {k : Int} (h : t = zh9 k ++ q) : (lenN (zaa (zcp (k % 256)) q) = lenN t /\ ∀ i j : Nat, i < lenN t -> j < 1 -> AV.int .u8 (zbu (zaa (zcp (k % 256)) q) i) = AV.int .u8 (zbu t i)) /\ lenN (zaa (zcp (k % 256)) q) = lenN t :=
 zv4 (by rw [h]; rfl)
theorem yl6 {N : Nat} (ih : zhc Tryz.prog (zr2 N std)) (b : List UInt8) (k n : Int) (s : List UInt8) (l : List CV) (hz : zox (N + 1) (.mk k n s l)) (hw : ya7 (.mk k n s l)) (hb : zfy b (zc8 (.mk k n s l))) :
   zce Tryz.prog 83 [.ref 500000 0, .agg [.int .i64 k, .int .u64 n, .str s, cvL std l]] (bld std b) (.tup []) (zup std (zaa b (zc8 (.mk k n s l)))) := by
 refine zay (T := tt) (S := fun L => zf6 [zlr L] [ysd L, ysc L, zr2 N L]) (lo := fun L => putA L b k l) (lb := noA) 5 (fn := Tryz.f83) (xs := fun L => [.ref 500000 0, .agg [.int .i64 k, .int .u64 n, .str s, cvL L l]]) (rts := fun _ => []) (O := fun L => bld L b) (O1 := fun L => zup L (L2 L zaa b (L zc8 (.mk k n s l))))
   rfl rfl (by kernel_rfl) (by kernel_rfl) (by kernel_rfl) zad (zc1 ⟨zjt, trivial⟩ ⟨zzy, zzs, ih, trivial⟩) (by kernel_rfl) ?_
 intro L P' Q' hL hP hQ
 have hB : ∀ b : List UInt8, L (L zca (L lenN b)) (fun i => (AV.int .u8 (L2 L zbu b i)).toI) = b := by subst hL; exact zhs
 (cbv; try simp only [syT, true_and, and_true])
 simp only [hB]
 refine ⟨⟨trivial, fun _ _ _ _ => trivial⟩, trivial, ⟨?_, ?_⟩, fun h1 => ⟨?_, ⟨trivial, fun _ _ _ _ => trivial⟩, trivial, ?_, ?_⟩, fun h1 => ⟨fun h2 => ⟨?_, ?_, ⟨trivial, fun _ _ _ _ => trivial⟩, trivial, ?_, ?_⟩, fun h2 => ⟨?_, ⟨trivial, fun _ _ _ _ => trivial⟩, trivial, ?_, ⟨0, ?_⟩, fun i hi => ?_⟩⟩⟩
 · (subst hL; subst hQ; simp only [L2, L3, std] at *; try simp only [syS, reduceCtorEq, Int.reduceToNat, Int.reduceAdd, Int.reduceSub] at *)
   exact ⟨Int.emod_nonneg _ (by omega), Int.emod_lt_of_pos _ (by omega)⟩
 · (subst hL; subst hQ; simp only [L2, L3, std] at *; try simp only [syS, reduceCtorEq, Int.reduceToNat, Int.reduceAdd, Int.reduceSub] at *)
   exact ypn hb
 · (subst hL; subst hQ; simp only [L2, L3, std] at *; try simp only [syS, reduceCtorEq, Int.reduceToNat, Int.reduceAdd, Int.reduceSub] at *)
   rw [zzx] at hw
   exact hw.1.1
 · (subst hL; subst hQ; simp only [L2, L3, std] at *; try simp only [syS, reduceCtorEq, Int.reduceToNat, Int.reduceAdd, Int.reduceSub] at *)
   rw [zao, if_pos h1] at hb
   exact zv5 hb
 · (subst hL; subst hQ; simp only [L2, L3, std] at *; try simp only [syS, reduceCtorEq, Int.reduceToNat, Int.reduceAdd, Int.reduceSub] at *)
   exact yj0 (by rw [zao, if_pos h1])
 · (subst hL; subst hQ; simp only [L2, L3, std] at *; try simp only [syS, reduceCtorEq, Int.reduceToNat, Int.reduceAdd, Int.reduceSub] at *)
   rw [zzx] at hw
   rw [zin (by omega) (by omega)]
   exact ⟨by omega, by omega⟩
 · (subst hL; subst hQ; simp only [L2, L3, std] at *; try simp only [syS, reduceCtorEq, Int.reduceToNat, Int.reduceAdd, Int.reduceSub] at *)
   rw [zjo hw.1]
   have h3 := hw.2
   rw [zao, if_neg h1, if_pos h2] at h3
   simp at h3 |-
   omega
 · (subst hL; subst hQ; simp only [L2, L3, std] at *; try simp only [syS, reduceCtorEq, Int.reduceToNat, Int.reduceAdd, Int.reduceSub] at *)
   rw [zjo hw.1]
   rw [zao, if_neg h1, if_pos h2] at hb
   exact zv5 hb
 · (subst hL; subst hQ; simp only [L2, L3, std] at *; try simp only [syS, reduceCtorEq, Int.reduceToNat, Int.reduceAdd, Int.reduceSub] at *)
   rw [zjo hw.1]
   exact yj0 (by rw [zao, if_neg h1, if_pos h2])
 · (subst hL; subst hQ; simp only [L2, L3, std] at *; try simp only [syS, reduceCtorEq, Int.reduceToNat, Int.reduceAdd, Int.reduceSub] at *)
   rw [zjp hz]
   exact zms hz
 · (subst hL; subst hQ; simp only [L2, L3, std] at *; try simp only [syS, reduceCtorEq, Int.reduceToNat, Int.reduceAdd, Int.reduceSub] at *)
   rw [zjp hz]
   rw [zao, if_neg h1, if_neg h2] at hb
   exact yj5 hb
 · (cbv; try simp only [syT, true_and, and_true])
   (subst hL; subst hQ; simp only [L2, L3, std] at *; try simp only [syS, reduceCtorEq, Int.reduceToNat, Int.reduceAdd, Int.reduceSub] at *)
   rw [zjp hz]
   have e : zaa (zaa b (zcp (k % 256))) (zb8 ((l.length : Nat) : Int)) = zpb b k l 0 := by
     rw [zpb, zhy, List.take_zero, zb0, List.append_nil]; rfl
   rw [e]
   exact ⟨⟨rfl, fun _ _ _ _ => rfl⟩, rfl, Nat.zero_le _⟩
 · cbv at hi
   (cbv; try simp only [syT, true_and, and_true])
   simp only [hB]
   refine ⟨fun hlt => ⟨?_, ⟨trivial, fun _ _ _ _ => trivial⟩, trivial, fun _ _ _ _ => trivial, ⟨?_, ?_, ?_, ?_⟩, ⟨i + 1, ?_⟩⟩, fun hge => ?_⟩
   · (subst hL; subst hQ; simp only [L2, L3, std] at *; try simp only [syS, reduceCtorEq, Int.reduceToNat, Int.reduceAdd, Int.reduceSub] at *)
     omega
   · (subst hL; subst hQ; simp only [L2, L3, std] at *; try simp only [syS, reduceCtorEq, Int.reduceToNat, Int.reduceAdd, Int.reduceSub] at *)
     exact (zk0 _).2
   · (subst hL; subst hQ; simp only [L2, L3, std] at *; try simp only [syS, reduceCtorEq, Int.reduceToNat, Int.reduceAdd, Int.reduceSub] at *)
     rw [zcb]
     rw [zbz] at hz
     exact zr7 hz.1 (by have : lenL l = l.length := rfl; omega)
   · (subst hL; subst hQ; simp only [L2, L3, std] at *; try simp only [syS, reduceCtorEq, Int.reduceToNat, Int.reduceAdd, Int.reduceSub] at *)
     rw [zci]
     exact yis hw (by omega) (by omega) (by have : lenL l = l.length := rfl; omega)
   · (subst hL; subst hQ; simp only [L2, L3, std] at *; try simp only [syS, reduceCtorEq, Int.reduceToNat, Int.reduceAdd, Int.reduceSub] at *)
     rw [zci]
     have h4 := zeg (l := l) (i := i) (by have : lenL l = l.length := rfl; omega)
     have h5 := zjq l (i + 1)
     rw [h4, List.length_append] at h5
     rw [zao, if_neg h1, if_neg h2] at hb
     unfold zfy at hb |-
     simp only [List.length_append, zpb] at hb |-
     omega
   · (cbv; try simp only [syT, true_and, and_true])
     (subst hL; subst hQ; simp only [L2, L3, std] at *; try simp only [syS, reduceCtorEq, Int.reduceToNat, Int.reduceAdd, Int.reduceSub] at *)
     have : lenL l = l.length := rfl
     have := zma l
     rw [zbz] at hz
     have h4 := hz.1.1
     have h5 := hz.1.2
     rw [zci]
     have e : zaa (zpb b k l i) (zc8 (zd9 l i)) = zpb b k l (i + 1) := by
       rw [zpb, zpb, zeg (by omega)]; unfold zaa; simp only [List.append_assoc]
     rw [e]
     exact ⟨⟨rfl, fun _ _ _ _ => rfl⟩, rfl, by omega, by omega, by omega⟩
   · (subst hL; subst hQ; simp only [L2, L3, std] at *; try simp only [syS, reduceCtorEq, Int.reduceToNat, Int.reduceAdd, Int.reduceSub] at *)
     have : lenL l = l.length := rfl
     have hil : i = l.length := by omega
     exact zv4 (by rw [zao, if_neg h1, if_neg h2, zpb, hil, zhy, List.take_length]; unfold zaa; simp only [List.append_assoc])
theorem yl7 {N : Nat} (ih : zhc Tryz.prog (zr2 N std)) (k n : Int) (s : List UInt8) (l : List CV) (hz : zox (N + 1) (.mk k n s l)) (hw : ya7 (.mk k n s l)) :
   zce Tryz.prog 83 [.ref 500000 0, .agg [.int .i64 k, .int .u64 n, .str s, cvL std l]] yov (.tup []) (zup std (zc8 (.mk k n s l))) := by
 refine zay (T := tt) (S := fun L => zf6 [zlr L] [ysd L, ysc L, zr2 N L]) (lo := fun L => putA L [] k l) (lb := noA) 5 (fn := Tryz.f83) (xs := fun L => [.ref 500000 0, .agg [.int .i64 k, .int .u64 n, .str s, cvL L l]]) (rts := fun _ => []) (O := fun L => yov) (O1 := fun L => zup L (L zc8 (.mk k n s l)))
   rfl rfl (by kernel_rfl) (by kernel_rfl) (by kernel_rfl) zad (zc1 ⟨zjt, trivial⟩ ⟨zzy, zzs, ih, trivial⟩) (by kernel_rfl) ?_
 intro L P' Q' hL hP hQ
 have hb : zfy [] (zc8 (.mk k n s l)) := by have := hw.2; unfold zfy; simp; omega
 have hB : ∀ b : List UInt8, L (L zca (L lenN b)) (fun i => (AV.int .u8 (L2 L zbu b i)).toI) = b := by subst hL; exact zhs
 (cbv; try simp only [syT, true_and, and_true])
 simp only [hB]
 refine ⟨?_, fun h1 => ⟨?_, ⟨trivial, fun _ _ _ _ => trivial⟩, trivial, ?_, ?_⟩, fun h1 => ⟨fun h2 => ⟨?_, ?_, ⟨trivial, fun _ _ _ _ => trivial⟩, trivial, ?_, ?_⟩, fun h2 => ⟨?_, ⟨trivial, fun _ _ _ _ => trivial⟩, trivial, ?_, ⟨0, ?_⟩, fun i hi => ?_⟩⟩⟩
 · (subst hL; subst hQ; simp only [L2, L3, std] at *; try simp only [syS, reduceCtorEq, Int.reduceToNat, Int.reduceAdd, Int.reduceSub] at *)
   exact ⟨Int.emod_nonneg _ (by omega), Int.emod_lt_of_pos _ (by omega)⟩
 · (subst hL; subst hQ; simp only [L2, L3, std] at *; try simp only [syS, reduceCtorEq, Int.reduceToNat, Int.reduceAdd, Int.reduceSub] at *)
   rw [zzx] at hw
   exact hw.1.1
 · (subst hL; subst hQ; simp only [L2, L3, std] at *; try simp only [syS, reduceCtorEq, Int.reduceToNat, Int.reduceAdd, Int.reduceSub] at *)
   rw [zao, if_pos h1] at hb
   exact zv5 hb
 · (subst hL; subst hQ; simp only [L2, L3, std] at *; try simp only [syS, reduceCtorEq, Int.reduceToNat, Int.reduceAdd, Int.reduceSub] at *)
   exact yj1 (by rw [zao, if_pos h1])
 · (subst hL; subst hQ; simp only [L2, L3, std] at *; try simp only [syS, reduceCtorEq, Int.reduceToNat, Int.reduceAdd, Int.reduceSub] at *)
   rw [zzx] at hw
   rw [zin (by omega) (by omega)]
   exact ⟨by omega, by omega⟩
 · (subst hL; subst hQ; simp only [L2, L3, std] at *; try simp only [syS, reduceCtorEq, Int.reduceToNat, Int.reduceAdd, Int.reduceSub] at *)
   rw [zjo hw.1]
   have h3 := hw.2
   rw [zao, if_neg h1, if_pos h2] at h3
   simp at h3 |-
   omega
 · (subst hL; subst hQ; simp only [L2, L3, std] at *; try simp only [syS, reduceCtorEq, Int.reduceToNat, Int.reduceAdd, Int.reduceSub] at *)
   rw [zjo hw.1]
   rw [zao, if_neg h1, if_pos h2] at hb
   exact zv5 hb
 · (subst hL; subst hQ; simp only [L2, L3, std] at *; try simp only [syS, reduceCtorEq, Int.reduceToNat, Int.reduceAdd, Int.reduceSub] at *)
   rw [zjo hw.1]
   exact yj1 (by rw [zao, if_neg h1, if_pos h2])
 · (subst hL; subst hQ; simp only [L2, L3, std] at *; try simp only [syS, reduceCtorEq, Int.reduceToNat, Int.reduceAdd, Int.reduceSub] at *)
   rw [zjp hz]
   exact zms hz
 · (subst hL; subst hQ; simp only [L2, L3, std] at *; try simp only [syS, reduceCtorEq, Int.reduceToNat, Int.reduceAdd, Int.reduceSub] at *)
   rw [zjp hz]
   rw [zao, if_neg h1, if_neg h2] at hb
   exact yj5 hb
 · (cbv; try simp only [syT, true_and, and_true])
   (subst hL; subst hQ; simp only [L2, L3, std] at *; try simp only [syS, reduceCtorEq, Int.reduceToNat, Int.reduceAdd, Int.reduceSub] at *)
   rw [zjp hz]
   have e : zaa (zcp (k % 256)) (zb8 ((l.length : Nat) : Int)) = zpb [] k l 0 := by
     rw [zpb, zhy, List.take_zero, zb0, List.append_nil]; rfl
   rw [e]
   exact ⟨⟨rfl, fun _ _ _ _ => rfl⟩, rfl, Nat.zero_le _⟩
 · cbv at hi
   (cbv; try simp only [syT, true_and, and_true])
   simp only [hB]
   refine ⟨fun hlt => ⟨?_, ⟨trivial, fun _ _ _ _ => trivial⟩, trivial, fun _ _ _ _ => trivial, ⟨?_, ?_, ?_, ?_⟩, ⟨i + 1, ?_⟩⟩, fun hge => ?_⟩
   · (subst hL; subst hQ; simp only [L2, L3, std] at *; try simp only [syS, reduceCtorEq, Int.reduceToNat, Int.reduceAdd, Int.reduceSub] at *)
     omega
   · (subst hL; subst hQ; simp only [L2, L3, std] at *; try simp only [syS, reduceCtorEq, Int.reduceToNat, Int.reduceAdd, Int.reduceSub] at *)
     exact (zk0 _).2
   · (subst hL; subst hQ; simp only [L2, L3, std] at *; try simp only [syS, reduceCtorEq, Int.reduceToNat, Int.reduceAdd, Int.reduceSub] at *)
     rw [zcb]
     rw [zbz] at hz
     exact zr7 hz.1 (by have : lenL l = l.length := rfl; omega)
   · (subst hL; subst hQ; simp only [L2, L3, std] at *; try simp only [syS, reduceCtorEq, Int.reduceToNat, Int.reduceAdd, Int.reduceSub] at *)
     rw [zci]
     exact yis hw (by omega) (by omega) (by have : lenL l = l.length := rfl; omega)
   · (subst hL; subst hQ; simp only [L2, L3, std] at *; try simp only [syS, reduceCtorEq, Int.reduceToNat, Int.reduceAdd, Int.reduceSub] at *)
     rw [zci]
     have h4 := zeg (l := l) (i := i) (by have : lenL l = l.length := rfl; omega)
     have h5 := zjq l (i + 1)
     rw [h4, List.length_append] at h5
     rw [zao, if_neg h1, if_neg h2] at hb
     unfold zfy at hb |-
     simp only [List.length_append, zpb] at hb |-
     omega
   · (cbv; try simp only [syT, true_and, and_true])
     (subst hL; subst hQ; simp only [L2, L3, std] at *; try simp only [syS, reduceCtorEq, Int.reduceToNat, Int.reduceAdd, Int.reduceSub] at *)
     have : lenL l = l.length := rfl
     have := zma l
     rw [zbz] at hz
     have h4 := hz.1.1
     have h5 := hz.1.2
     rw [zci]
     have e : zaa (zpb [] k l i) (zc8 (zd9 l i)) = zpb [] k l (i + 1) := by
       rw [zpb, zpb, zeg (by omega)]; unfold zaa; simp only [List.append_assoc]
     rw [e]
     exact ⟨⟨rfl, fun _ _ _ _ => rfl⟩, rfl, by omega, by omega, by omega⟩
   · (subst hL; subst hQ; simp only [L2, L3, std] at *; try simp only [syS, reduceCtorEq, Int.reduceToNat, Int.reduceAdd, Int.reduceSub] at *)
     have : lenL l = l.length := rfl
     have hil : i = l.length := by omega
     exact zv4 (by rw [zao, if_neg h1, if_neg h2, zpb, hil, zhy, List.take_length, List.nil_append, List.append_assoc])
theorem zto {P : Program} {f : FuncId} {xs ys : List AV} {O O1 : List (Nat × Ob)} {r : AV} (e : ∀ h D μ vs, RL h D μ xs vs -> RL h D μ ys vs) (hm : zce P f ys O r O1) : zce P f xs O r O1 :=
 fun D w μ vs hD hx => hm D w μ vs hD (e _ _ _ _ hx)
theorem ydo : ∀ N, zhc Tryz.prog (zr2 N std) := by
 intro N
 induction N with
 | zero =>
   intro raw ob T hT hp
   unfold zr2 at hT
   simp only at hT
   split at hT
   · rename_i k n s x
     split at hT <;> cases hT
     · have h1 : sizeC (mkV std k n s x) <= 0 := hp.2.1.1
       have := zdr (mkV std k n s x)
       omega
     · have h1 : sizeC (mkV std k n s x) <= 0 := hp.2.1.1
       have := zdr (mkV std k n s x)
       omega
   · cases hT
 | succ N ih =>
   intro raw ob T hT hp
   unfold zr2 at hT
   simp only at hT
   split at hT
   rotate_left
   · cases hT
   rename_i k n s x
   split at hT <;> cases hT
   · refine zto (fun h D μ vs hr => ysk (fun v => ya4 hp.1) hr) ?_
     exact yl7 ih k n s (rdL x) hp.2.1 hp.2.2
   · refine zto (fun h D μ vs hr => ysk (fun v => ya4 hp.1) hr) ?_
     exact yl6 ih _ k n s (rdL x) hp.2.1 hp.2.2.1 hp.2.2.2
theorem zut {P : Program} {f : FuncId} {sz n : Nat} {get : Nat -> Nat -> AV} {r : AV} (h0 : n = 0 -> za5 P f [.nils] r) (h1 : n = 0 -> za5 P f [.emp] r) (h2 : 0 < n -> za5 P f [.lst sz n get] r) : za5 P f [.lst sz n get] r := by
 by_cases e : n = 0
 · subst e
   intro D w vs hD hx
   obtain ⟨v, hv⟩ : ∃ v, vs.toList = [v] := List.length_eq_one_iff.1 (by simpa using hx.1.symm)
   have : vs = #[v] := by rw [<- Array.toArray_toList (xs := vs), hv]
   subst this
   have hr := hx.2 0 _ _ rfl rfl
   have one : ∀ y, R w.heap D zam y v -> RL w.heap D zam [y] #[v] := fun y r => ⟨rfl, fun i x u hx hu => by
     match i with
     | 0 => cases hx; cases hu; exact r
     | i + 1 => simp at hx⟩
   cases hr with
   | lst0 _ _ a cap hn =>
     cases a with
     | none =>
       obtain rfl := hn rfl
       exact h0 rfl D w _ hD (one _ .nils)
     | some a => exact h1 rfl D w _ hD (one _ (.emp a cap))
   | lst _ _ _ b o cap vs' hD' hc hv' h1' hr' => exact h1 rfl D w _ hD (one _ (.emp _ cap))
 · exact h2 (by omega)
def zg1 (n : Int) : CV := .mk 1 n [] []
def zhd (s : List UInt8) : CV := .mk 2 0 s []
def zdw (l : List CV) : CV := .mk 3 0 [] l
def zxx (L : za9) : zdq := (53, fun xs => match xs with | [.int .u64 n] => some (True, cvA L (L zg1 n)) | _ => none)
def zwv (L : za9) : zdq := (87, fun xs => match xs with | [.str s] => some (True, cvA L (L zhd s)) | _ => none)
theorem zl6 : zbp Tryz.prog (zxx std) := by
 intro xs p r h hp
 unfold zxx at h
 simp only at h
 split at h
 rotate_left
 · cases h
 rename_i n
 cases h
 refine zaw (T := tt) (S := noS) (lo := noA) (lb := noA) 5 (fn := Tryz.f53) rfl rfl (by kernel_rfl) (by kernel_rfl) rfl zad (zbl _) (by kernel_rfl) ?_
 (intro L P1 Q1 hL hP hQ; cbv; subst hL; simp only [L2, L3, std, syT]; subst hQ)
 show zgn (.agg [.int .i64 1, .int .u64 n, .str [], .lst 4 0 (zlg (zg1 n))]) _
 simp [zh7, zbt, zc6, zfk, zc7]
theorem zl1 : zbp Tryz.prog (zwv std) := by
 intro xs p r h hp
 unfold zwv at h
 simp only at h
 split at h
 rotate_left
 · cases h
 rename_i n
 cases h
 refine zaw (T := tt) (S := noS) (lo := noA) (lb := noA) 5 (fn := Tryz.f87) rfl rfl (by kernel_rfl) (by kernel_rfl) rfl zad (zbl _) (by kernel_rfl) ?_
 (intro L P1 Q1 hL hP hQ; cbv; subst hL; simp only [L2, L3, std, syT]; subst hQ)
 show zgn (.agg [.int .i64 2, .int .u64 0, .str n, .lst 4 0 (zlg (zhd n))]) _
 simp [zh7, zbt, zc6, zfk, zc7]
def yci (l : List CV) : Prop := l.length <= 1000000
def zuf (L : za9) : zdq := (86, fun xs => match xs with
 | [x] => some (L okL x /\ L yci (L rdL x), .lst 4 (L lenL (L rdL x)) (L zjc (L rdL x)))
 | _ => none)
theorem zz2 : zbp Tryz.prog (zuf std) := by
 intro xs p r h hp
 unfold zuf at h
 simp only at h
 split at h
 rotate_left
 · cases h
 rename_i x
 cases h
 obtain ⟨ho, hz⟩ := hp
 refine ysz ho ?_
 have hz : yci (rdL x) := hz
 show za5 _ _ [cvL std (rdL x)] (.lst 4 (lenL (rdL x)) (zjc (rdL x)))
 generalize rdL x = l at hz |-
 refine zut (fun h => ?_) (fun h => ?_) (fun h => ?_)
 · refine zaw (T := tt) (S := noS) (lo := noA) (lb := noA) 5 (fn := Tryz.f86) rfl rfl (by kernel_rfl) (by kernel_rfl) rfl zad (zbl _) (by kernel_rfl) ?_
   intro L P' Q' hL hP hQ
   (cbv; try simp only [syT, true_and, and_true])
   (subst hL; subst hQ; simp only [L2, L3, std] at *; try simp only [syS, reduceCtorEq, Int.reduceToNat, Int.reduceAdd, Int.reduceSub] at *)
   exact h.symm
 · refine zaw (T := tt) (S := noS) (lo := noA) (lb := noA) 5 (fn := Tryz.f86) rfl rfl (by kernel_rfl) (by kernel_rfl) rfl zad (zbl _) (by kernel_rfl) ?_
   intro L P' Q' hL hP hQ
   (cbv; try simp only [syT, true_and, and_true])
   (subst hL; subst hQ; simp only [L2, L3, std] at *; try simp only [syS, reduceCtorEq, Int.reduceToNat, Int.reduceAdd, Int.reduceSub] at *)
   exact ⟨by omega, h.symm, fun i j hi => by omega⟩
 · refine za4 (T := tt) (S := noS) (lo := fun _ => noA std) (lb := noA) 5 (fn := Tryz.f86) (xs := fun L => [cvL L l]) rfl rfl (by kernel_rfl) (by kernel_rfl) rfl zad (zbl _) (by kernel_rfl) ?_
   intro L P' Q' hL hP hQ
   (cbv; try simp only [syT, true_and, and_true])
   (subst hL; subst hQ; simp only [L2, L3, std] at *; try simp only [syS, reduceCtorEq, Int.reduceToNat, Int.reduceAdd, Int.reduceSub] at *)
   have h1 : lenL l <= 1000000 := hz
   exact ⟨zih h, by omega, fun i j hi hj => by rw [zue _ _ hj, zc3 _ _ _ hi]⟩
def zgg (L : za9) : zdq := (52, fun xs => match xs with
 | [x] => some (L okL x /\ L yci (L rdL x), cvA L (L zdw (L rdL x)))
 | _ => none)
theorem zct : zbp Tryz.prog (zgg std) := by
 intro xs p r h hp
 unfold zgg at h
 simp only at h
 split at h
 rotate_left
 · cases h
 rename_i x
 cases h
 obtain ⟨ho, hz⟩ := hp
 refine ysz ho ?_
 have hz : yci (rdL x) := hz
 show za5 _ _ [cvL std (rdL x)] (cvA std (zdw (rdL x)))
 generalize rdL x = l at hz |-
 refine za4 (T := tt) (S := fun L => zb7 [zuf L]) (lo := fun _ => noA std) (lb := noA) 5 (fn := Tryz.f52) (xs := fun L => [cvL L l]) rfl rfl (by kernel_rfl) (by kernel_rfl) rfl zad (za7 ⟨zz2, trivial⟩) (by kernel_rfl) ?_
 intro L P' Q' hL hP hQ
 (cbv; try simp only [syT, true_and, and_true])
 (subst hL; subst hQ; simp only [L2, L3, std] at *; try simp only [syS, reduceCtorEq, Int.reduceToNat, Int.reduceAdd, Int.reduceSub] at *)
 rw [rdl]
 refine ⟨⟨okl l, hz⟩, ?_⟩
 show zgn (.agg [.int .i64 3, .int .u64 0, .str [], .lst 4 (lenL l) (zjc l)]) _
 simp [zh7, zbt, zc6, zdm, zc7]
def zt9 (v : CV) : Int := if zgd v = true then (if ze2 v > 6 then 8 else if (zc8 v).length > 8192 then 5 else 0) else 10
def zxq (v : CV) : List UInt8 := if zt9 v = 0 then zc8 v else []
def zwf (N : Nat) (L : za9) : zdq := (51, fun xs => match xs with
 | [.agg [.int .i64 k, .int .u64 n, .str s, x]] => some (L okL x /\ L2 L zox N (mkV L k n s x) /\ L ya7 (mkV L k n s x), .tup [.str (L zxq (mkV L k n s x)), .int .i64 (L zt9 (mkV L k n s x))])
 | _ => none)
theorem zok (N : Nat) : zbp Tryz.prog (zwf N std) := by
 intro xs p r h hp
 unfold zwf at h
 simp only at h
 split at h
 rotate_left
 · cases h
 rename_i k n s x
 cases h
 obtain ⟨ho, hz, hw⟩ := hp
 refine ysy ho ?_
 rw [show mkV std k n s x = .mk k n s (rdL x) from rfl] at hz hw |-
 generalize rdL x = l at hz hw |-
 have hz : zox N (.mk k n s l) := hz
 have hw : ya7 (.mk k n s l) := hw
 refine za4 (T := tt) (S := fun L => zf6 [zon N L, zs3 N L] [zr2 N L, yv9 L, yv8 L]) (lo := fun _ => noA std) (lb := noA) 5 (fn := Tryz.f51) (xs := fun L => [.agg [.int .i64 k, .int .u64 n, .str s, cvL L l]]) rfl rfl (by kernel_rfl) (by kernel_rfl) rfl zad
   (zc1 ⟨yef N, ydi N, trivial⟩ ⟨ydo N, yny, ynx, trivial⟩) (by kernel_rfl) ?_
 intro L P' Q' hL hP hQ
 have hB : ∀ b : List UInt8, L (L zca (L lenN b)) (fun i => (AV.int .u8 (L2 L zbu b i)).toI) = b := by subst hL; exact zhs
 (cbv; try simp only [syT, true_and, and_true])
 simp only [hB]
 (subst hL; subst hQ; simp only [L2, L3, std] at *; try simp only [syS, reduceCtorEq, Int.reduceToNat, Int.reduceAdd, Int.reduceSub] at *)
 simp only [rdl, mkl]
 refine ⟨⟨okl l, hz⟩, fun h1 => ?_, fun h1 => ⟨⟨okl l, hz⟩, fun h2 => ?_, fun h2 => ⟨⟨okl l, hz, hw⟩, fun h3 => ?_, fun h3 => ⟨⟨?_, hw.2⟩, ?_⟩⟩⟩⟩
 · simp [zxq, zt9, h1]
 · simp [zxq, zt9, h1, h2]
 · have h4 : ¬ 6 < ze2 (.mk k n s l) := by omega
   have h5 : 8192 < (zc8 (.mk k n s l)).length := by omega
   simp [zxq, zt9, h1, h4, h5]
 · rw [zao]; simp [zh9]
 · have h4 : ¬ 6 < ze2 (.mk k n s l) := by omega
   have h5 : ¬ 8192 < (zc8 (.mk k n s l)).length := by omega
   simp [zxq, zt9, h1, h4, h5]
theorem one1 (v : CV) : rdL (.lst 4 1 fun i j => zbb .dead [.int .i64 v.kd, .int .u64 v.nn, .str v.tx, .lst 4 (zn9 v) (zlg v)] (i * 4 + j)) = [v] := by
 show [CV.mk v.kd v.nn v.tx (rdL (.lst 4 (zn9 v) (zlg v)))] = [v]
 rw [zcb]
theorem yli (v : CV) : okL (.lst 4 1 fun i j => zbb .dead [.int .i64 v.kd, .int .u64 v.nn, .str v.tx, .lst 4 (zn9 v) (zlg v)] (i * 4 + j)) := by
 refine ⟨rfl, fun i hi => ?_⟩
 have : i = 0 := by omega
 subst this
 exact ⟨⟨_, rfl⟩, ⟨_, rfl⟩, ⟨_, rfl⟩, (zk0 v).2⟩
theorem yac : zb8 1 = [1] := by rw [zb8, show (1 : Int).toNat = 1 from rfl, zbk (by decide)]; rfl
theorem ypd : zb8 5 = [5] := by rw [zb8, show (5 : Int).toNat = 5 from rfl, zbk (by decide)]; rfl
theorem zu6 : zc8 (zdw [zg1 5]) = [3, 1, 1, 5] := by
 rw [zdw, zg1, zao, if_neg (by decide), if_neg (by decide), zb0, zao, if_pos rfl, zb0, ypd]
 show _ ++ (zb8 1 ++ _) = _
 rw [yac]; rfl
theorem ymv : zgd (zdw [zg1 5]) = true := by rw [zdw, zg1, zgd, ze5, zgd, ze5]; rfl
theorem ymu : ze2 (zdw [zg1 5]) = 1 := by rw [zdw, zg1, ze2, zb2, ze2, zb2]; rfl
theorem yms : sizeC (zdw [zg1 5]) = 2 := by rw [zdw, zg1, zcv, zby, zd1, zcv, zd1]
theorem yde : zt9 (zdw [zg1 5]) = 0 := by rw [zt9, ymv, ymu, zu6]; rfl
theorem ymt : zxq (zdw [zg1 5]) = [3, 1, 1, 5] := by rw [zxq, yde, zu6]; rfl
theorem yup : ya7 (zdw [zg1 5]) := by
 refine ⟨?_, by rw [zu6]; decide⟩
 simp only [zdw, zg1, wfV, zuw, zd6]
 decide
theorem zz9 : za5 Tryz.prog 59 [] (.bool true) := by
 refine zaw (T := tt) (S := fun L => zb7 [zxx L, zgg L, zwf 100 L, tru 93]) (lo := noA) (lb := noA) 5 (fn := Tryz.f59) rfl rfl (by kernel_rfl) (by kernel_rfl) rfl zad (za7 ⟨zl6, zct, zok 100, zeu zoq, trivial⟩) (by kernel_rfl) ?_
 intro L P' Q' hL hP hQ
 (cbv; try simp only [syT, true_and, and_true])
 (subst hL; subst hQ; simp only [L2, L3, std] at *; try simp only [syS, reduceCtorEq, Int.reduceToNat, Int.reduceAdd, Int.reduceSub] at *)
 simp only [one1, zcb, zci, yde, ymt]
 exact ⟨⟨yli _, by show (1 : Nat) <= 1000000; omega⟩, ⟨(zk0 _).2, ⟨by rw [yms]; omega, by omega⟩, yup⟩, fun _ => trivial, trivial⟩
theorem zzj : za5 Tryz.prog 20 [] (.bool true) := by
 refine zaw (T := tt) (S := fun L => zb7 [tru 59]) (lo := noA) (lb := noA) 5 (fn := Tryz.f20) rfl rfl (by kernel_rfl) (by kernel_rfl) rfl zad (za7 ⟨zeu zz9, trivial⟩) (by kernel_rfl) ?_
 (intro L P1 Q1 hL hP hQ; cbv; subst hL; simp only [L2, L3, std, syT]; subst hQ)
 (simp only [syS, reduceCtorEq, Int.reduceToNat, Int.reduceAdd, Int.reduceSub])
theorem zq6 (g : Nat -> CV) {i q j : Nat} (hq : q < i + 1) (hj : j < 4) :
   zer std (zbg q i) (cv1 std (g q) j) (zbb .dead [.int .i64 (g i).kd, .int .u64 (g i).nn, .str (g i).tx, .lst 4 (zn9 (g i)) (zlg (g i))] ((q - i) * 4 + j)) = cv1 std (g q) j := by
 by_cases h : q < i
 · rw [zih h, show q - i = 0 by omega, Nat.zero_mul, Nat.zero_add]
   match j, hj with
   | 0, _ => rfl
   | 1, _ => rfl
   | 2, _ => rfl
   | 3, _ => rfl
 · have : q = i := by omega
   subst this
   rw [zki (by omega), show q - q = 0 by omega, Nat.zero_mul, Nat.zero_add]
   match j, hj with
   | 0, _ => rfl
   | 1, _ => rfl
   | 2, _ => rfl
   | 3, _ => rfl
structure Nd where
 k : Int
 n : Int
 s : List UInt8
 b : List UInt8
def ysn (l : List Nd) (i : Nat) : Nd := l.getD i ⟨0, 0, [], []⟩
def ynz {α : Type} (all : List α) : List UInt8 -> List α
 | [] => []
 | x :: b => if h : x.toNat < all.length then all[all.length - 1 - x.toNat] :: ynz all b else ynz all b
def sumI : List Int -> Int
 | [] => 0
 | x :: l => x + sumI l
def sizN (all : List Int) (d : Nd) : Int := 1 + ((d.s.length / 8 : Nat) : Int) + sumI (ynz all d.b)
def ykr (l : List Nd) : Nat -> List Int
 | 0 => []
 | i + 1 => ykr l i ++ [sizN (ykr l i) (ysn l i)]
def sizD (l : List Nd) (i : Nat) : Int := sizN (ykr l i) (ysn l i)
def yhq (l : List Nd) (i : Nat) : Prop := sizD l i <= 2000 /\ (ysn l i).s.length <= 9000 /\ (ysn l i).b.length <= 20 /\ l.length <= 40
def yjv (l : List Nd) (i : Nat) : Prop := ∀ j, j < i -> yhq l j
instance (l : List Nd) (i : Nat) : Decidable (yhq l i) := by unfold yhq; exact inferInstance
instance (l : List Nd) (i : Nat) : Decidable (yjv l i) := by unfold yjv; exact Nat.decidableBallLT i fun j _ => yhq l j
structure Lv where
 left : Int
 l : List CV
structure NR where
 v : CV
 r : List UInt8
 e : Int
structure NX where
 st : List Lv
 s : List UInt8
 f : Nat
 v : CV
def znh (e : Int) : NR := ⟨.mk 0 0 [] [], [], e⟩
def zg0 (val : List Lv -> List UInt8 -> NR) : List Lv -> CV -> List UInt8 -> NR
 | [], v, s => ⟨v, s, 0⟩
 | a :: st, v, s => if a.left - 1 = 0 then zg0 val st (.mk 3 0 [] (a.l ++ [v])) s else val (⟨a.left - 1, a.l ++ [v]⟩ :: st) s
def zk5 (val : List Lv -> List UInt8 -> NR) : List Lv -> List UInt8 -> NR
 | [], s => znh 0
 | a :: st, s => if a.left = 0 then zg0 val st (.mk 3 0 [] a.l) s else val (a :: st) s
def zi8 (s : List UInt8) : List UInt8 := (s.drop 1).drop (yu1 (s.drop 1)).toNat
def zex : Nat -> List Lv -> List UInt8 -> NR
 | 0, _, _ => znh 0
 | f + 1, st, s =>
   if s = [] then znh 3
   else if cb s 0 < 1 \/ 3 < cb s 0 then znh 10
   else if ysp (s.drop 1) ≠ 0 then znh (ysp (s.drop 1))
   else if cb s 0 = 1 then zg0 (zex f) st (.mk 1 (ylu (s.drop 1)) [] []) (zi8 s)
   else if cb s 0 = 2 then
     if ((zi8 s).length : Int) < ylu (s.drop 1) then znh 3
     else zg0 (zex f) st (.mk 2 0 ((zi8 s).take (ylu (s.drop 1)).toNat) []) ((zi8 s).drop (ylu (s.drop 1)).toNat)
   else if st.length = 6 then znh 8
   else zk5 (zex f) (⟨ylu (s.drop 1), []⟩ :: st) (zi8 s)
def yq8 (s : List UInt8) : NR := if 8192 < s.length then znh 5 else zex (s.length + 1) [] s
def ypb : List Lv -> Nat
 | [] => 0
 | a :: r => a.l.length + 1 + ypb r
def lvOk (st : List Lv) : Prop := ∀ a ∈ st, 1 <= a.left /\ a.left < 18446744073709551616
def yu0 (s0 : List UInt8) (x : NX) : Prop := x.st.length <= 6 /\ lvOk x.st /\ x.s.length < x.f /\ x.s.length + ypb x.st <= 8192 /\ zex x.f x.st x.s = yq8 s0
section
variable {s0 s : List UInt8} {st : List Lv} {f : Nat} {v : CV}
variable (h : yu0 s0 ⟨st, s, f, v⟩)
include h
end
section
variable {s0 s : List UInt8} {st : List Lv} {f : Nat} {v : CV} {a : Lv}
end
end Sy
end Go.Proofs.YtfonekpmkdkgnaaGreatDoor
namespace Go.Proofs.YtfonekpmkdkgnaaGreatDoor
namespace Sy
open Go Go.RowKit
set_option maxRecDepth 100000
set_option linter.unusedSimpArgs false
set_option linter.unusedVariables false
theorem zpi {m : Int} (h : zd6 m) (g : Nat) (st : List Lv) (c : UInt8) (r : List UInt8) (hc : 1 <= c.toNat /\ c.toNat <= 3) : zex (g + 1) st (c :: (zb8 m ++ r)) =
   if c.toNat = 1 then zg0 (zex g) st (.mk 1 m [] []) r
   else if c.toNat = 2 then
     if (r.length : Int) < m then znh 3
     else zg0 (zex g) st (.mk 2 0 (r.take m.toNat) []) (r.drop m.toNat)
   else if st.length = 6 then znh 8
   else zk5 (zex g) (⟨m, []⟩ :: st) r := by
 obtain ⟨e1, e2, e3⟩ := yqq h r
 have hcb : cb (c :: (zb8 m ++ r)) 0 = c.toNat := rfl
 have hr : zi8 (c :: (zb8 m ++ r)) = r := by
   unfold zi8
   rw [List.drop_succ_cons, List.drop_zero, e2]
   simp
 rw [zex, if_neg (by simp), hcb, if_neg (by omega), List.drop_succ_cons, List.drop_zero, e1, e3, hr, if_neg (by simp)]
theorem yn4 (v : CV) : 0 <= ze2 v /\ 0 <= zb2 v.ls := by
 have h0 : ∀ b : List CV, 0 <= zb2 b := by
   intro b
   induction b with
   | nil => rw [zb2]; omega
   | cons v l ih => rw [zb2]; omega
 refine ⟨?_, h0 _⟩
 cases v with
 | mk k n s l =>
   rw [ze2]
   have := h0 l
   split <;> omega
def yo8 (v : CV) : Prop := ∀ (st : List Lv) (s : List UInt8) (f : Nat), wfV v -> zgd v = true -> (st.length : Int) + ze2 v <= 6 -> (zc8 v).length <= 90000000 -> (zc8 v).length + s.length < f ->
 ∃ f', s.length < f' /\ zex f st (zc8 v ++ s) = zg0 (zex f') st v s
theorem yf2 (v : CV) : 0 < (zc8 v).length := by
 cases v with
 | mk k n s l =>
   rw [zao, List.length_append]
   show 0 < 1 + _
   omega
theorem zqh : ∀ l : List CV, l.length <= (zb0 l).length
 | [] => by simp
 | v :: l => by
   have := zqh l
   have := yf2 v
   rw [zb0, List.length_append, List.length_cons]
   omega
theorem zvf (st : List Lv) (s : List UInt8) : ∀ (l : List CV) (acc : List CV) (f : Nat), (∀ w ∈ l, yo8 w) -> zuw l -> ze5 l = true -> (st.length : Int) + 1 + zb2 l <= 6 -> (zb0 l).length <= 90000000 -> (zb0 l).length + s.length < f ->
   ∃ f', s.length < f' /\ zk5 (zex f) (⟨(l.length : Int), acc⟩ :: st) (zb0 l ++ s) = zg0 (zex f') st (.mk 3 0 [] (acc ++ l)) s
 | [], acc, f, hr, hw, hb, hd, ht, hf => by
   refine ⟨f, by rw [zb0] at hf; simpa using hf, ?_⟩
   rw [zk5, if_pos (show ((List.length ([] : List CV) : Nat) : Int) = 0 from rfl), zb0, List.nil_append, List.append_nil]
 | v :: l, acc, f, hr, hw, hb, hd, ht, hf => by
   rw [zuw] at hw
   rw [ze5, Bool.and_eq_true] at hb
   rw [zb2] at hd
   rw [zb0, List.length_append] at ht hf
   obtain ⟨f1, h1, e1⟩ := hr v (by simp) (⟨((v :: l).length : Int), acc⟩ :: st) (zb0 l ++ s) f hw.1 hb.1 (by rw [List.length_cons]; omega) (by omega) (by rw [List.length_append]; omega)
   rw [List.length_append] at h1
   obtain ⟨f2, h2, e2⟩ := zvf st s l (acc ++ [v]) f1 (fun w hw => hr w (by simp [hw])) hw.2 hb.2 (by omega) (by omega) h1
   refine ⟨f2, h2, ?_⟩
   rw [zk5, if_neg (by simp; omega), zb0, List.append_assoc, e1]
   have e3 : (((v :: l).length : Int) - 1) = (l.length : Int) := by simp
   rw [zk5] at e2
   rw [zg0]
   simp only [e3]
   rw [e2, List.append_assoc, List.singleton_append]
theorem reads (v : CV) : yo8 v := by
 refine ydk (p := yo8) (fun k n s l ih => ?_) v
 intro st r f hw hb hd ht hf
 rw [wfV] at hw
 obtain ⟨g, rfl⟩ : ∃ g, f = g + 1 := ⟨f - 1, by omega⟩
 rw [zao] at ht hf |-
 rw [zgd] at hb
 by_cases h1 : k = 1
 · subst h1
   rw [if_pos rfl] at hb ht hf |-
   simp only [Bool.and_eq_true, decide_eq_true_eq, List.isEmpty_iff] at hb
   obtain ⟨rfl, rfl⟩ := hb
   rw [List.length_append] at hf
   have e : zh9 1 = [1] := rfl
   rw [e] at hf |-
   refine ⟨g, by simp at hf; omega, ?_⟩
   rw [List.singleton_append, List.cons_append, zpi hw.1 g st 1 r (by decide)]
   rfl
 · rw [if_neg h1] at hb ht hf |-
   by_cases h2 : k = 2
   · subst h2
     rw [if_pos rfl] at hb ht hf |-
     simp only [Bool.and_eq_true, decide_eq_true_eq, List.isEmpty_iff] at hb
     obtain ⟨rfl, rfl⟩ := hb
     rw [List.length_append, List.length_append] at ht hf
     have e : zh9 2 = [2] := rfl
     rw [e] at hf |-
     refine ⟨g, by simp at hf; omega, ?_⟩
     rw [List.singleton_append, List.cons_append, List.append_assoc, zpi ⟨by omega, by omega⟩ g st 2 (s ++ r) (by decide)]
     rw [if_neg (by decide), if_pos (by decide), if_neg (by simp; omega)]
     rw [Int.toNat_natCast, List.take_left, List.drop_left]
   · rw [if_neg h2] at hb ht hf |-
     by_cases h3 : k = 3
     · subst h3
       rw [if_pos rfl] at hb
       simp only [Bool.and_eq_true, decide_eq_true_eq] at hb
       obtain ⟨⟨rfl, rfl⟩, hb⟩ := hb
       rw [ze2, if_pos rfl] at hd
       rw [List.length_append, List.length_append] at ht hf
       have e : zh9 3 = [3] := rfl
       rw [e] at hf |-
       have hll := zqh l
       have hdn := (yn4 (.mk 3 0 [] l)).2
       have hdn : 0 <= zb2 l := hdn
       obtain ⟨f', h5, h6⟩ := zvf st r l [] g ih hw.2.2 hb (by omega) (by omega) (by simp at hf; omega)
       refine ⟨f', h5, ?_⟩
       rw [List.singleton_append, List.cons_append, List.append_assoc, zpi ⟨by omega, by omega⟩ g st 3 (zb0 l ++ r) (by decide)]
       rw [if_neg (by decide), if_neg (by decide), if_neg (by omega), h6, List.nil_append]
     · rw [if_neg h3] at hb; cases hb
theorem ypy {v : CV} (h : zt9 v = 0) : zgd v = true /\ ze2 v <= 6 /\ (zc8 v).length <= 8192 /\ zxq v = zc8 v := by
 have ht : zxq v = zc8 v := by unfold zxq; rw [if_pos h]
 unfold zt9 at h
 split at h
 · rename_i h1
   split at h
   · cases h
   · rename_i h2
     split at h
     · cases h
     · rename_i h3
       exact ⟨h1, by omega, by omega, ht⟩
 · cases h
theorem zv6 {n : Nat} {get : Nat -> Nat -> AV} {l : List CV} (hn : n = l.length) (h : ∀ i j, i < n -> j < 4 -> get i j = zeo (zd9 l i) j) : rdL (.lst 4 n get) = l /\ okL (.lst 4 n get) := by
 constructor
 · apply List.ext_getElem
   · rw [ziu, hn]
   · intro i h1 h2
     have hi : i < n := by omega
     have e : ∀ m : List CV, ∀ hm : i < m.length, m[i] = zd9 m i := fun m hm => by rw [zd9, List.getD_eq_getElem?_getD, List.getElem?_eq_getElem hm]; rfl
     rw [e _ h1, e _ h2, zr1 hi, h i 0 hi (by omega), h i 1 hi (by omega), h i 2 hi (by omega), h i 3 hi (by omega), zgb, zga, zg9, zg8]
     show CV.mk _ _ _ (rdL (.lst 4 (zn9 (zd9 l i)) (zlg (zd9 l i)))) = _
     exact zcb _
 · refine ⟨rfl, fun i hi => ?_⟩
   rw [h i 0 hi (by omega), h i 1 hi (by omega), h i 2 hi (by omega), h i 3 hi (by omega), zgb, zga, zg9, zg8]
   exact ⟨⟨_, rfl⟩, ⟨_, rfl⟩, ⟨_, rfl⟩, (zk0 (zd9 l i)).2⟩
structure Rt where
 h : List UInt8
 p : List UInt8
 c : List UInt8
 i : Int
 deriving DecidableEq
structure Ep where
 pl : Pl
 w : Int
 deriving DecidableEq
structure Ls where
 n : List UInt8
 pl : Pl
 rs : List Rt
 deriving DecidableEq
structure Cl where
 n : List UInt8
 es : List Ep
 deriving DecidableEq
structure Cf where
 v : Int
 ls : List Ls
 cs : List Cl
 deriving DecidableEq
def plC (L : za9) (x : Pl) : Nat -> AV
 | 0 => .int .u8 (L Pl.a x)
 | 1 => .int .u8 (L Pl.b x)
 | 2 => .int .u8 (L Pl.c x)
 | 3 => .int .u8 (L Pl.d x)
 | _ => .int .u16 (L Pl.p x)
def rdP (c : Nat -> AV) : Pl := ⟨(c 0).toI, (c 1).toI, (c 2).toI, (c 3).toI, (c 4).toI⟩
def ysm (c : Nat -> AV) : Prop := isI .u8 (c 0) /\ isI .u8 (c 1) /\ isI .u8 (c 2) /\ isI .u8 (c 3) /\ isI .u16 (c 4)
def rtC (L : za9) (x : Rt) : Nat -> AV
 | 0 => .str (L Rt.h x)
 | 1 => .str (L Rt.p x)
 | 2 => .str (L Rt.c x)
 | _ => .int .u64 (L Rt.i x)
def rtV : Vw Rt := ⟨4, rtC, fun c => ⟨ybn (c 0), ybn (c 1), ybn (c 2), (c 3).toI⟩, fun c => isS (c 0) /\ isS (c 1) /\ isS (c 2) /\ isI .u64 (c 3), ⟨[], [], [], 0⟩⟩
def zbq (l : List Rt) (i : Nat) : Rt := zil rtV l i
def znj (L : za9) (l : List Rt) : AV := .lst 4 (L zab l) (fun i => rtC L (L (L zbq l) i))
def yby (x : AV) : Prop := okW rtV x
def ybm (x : AV) : List Rt := rdW rtV x
def yg6 (x : AV) : Prop := okG rtV x
def yfr (x : AV) : Rt := rdG rtV x
def epC (L : za9) (x : Ep) : Nat -> AV
 | 5 => .int .i64 (L Ep.w x)
 | j => plC L (L Ep.pl x) j
def epV : Vw Ep := ⟨6, epC, fun c => ⟨rdP c, (c 5).toI⟩, fun c => ysm c /\ isI .i64 (c 5), ⟨⟨0, 0, 0, 0, 0⟩, 0⟩⟩
def zc9 (l : List Ep) (i : Nat) : Ep := zil epV l i
def zk9 (L : za9) (l : List Ep) : AV := .lst 6 (L zab l) (fun i => epC L (L (L zc9 l) i))
def zpg (x : AV) : Prop := okW epV x
def zp8 (x : AV) : List Ep := rdW epV x
def zph (x : AV) : Prop := okG epV x
def zp9 (x : AV) : Ep := rdG epV x
def lsC (L : za9) (x : Ls) : Nat -> AV
 | 0 => .str (L Ls.n x)
 | 6 => znj L (L Ls.rs x)
 | j + 1 => plC L (L Ls.pl x) j
def lsV : Vw Ls := ⟨7, lsC, fun c => ⟨ybn (c 0), rdP (fun j => c (j + 1)), rdW rtV (c 6)⟩, fun c => isS (c 0) /\ ysm (fun j => c (j + 1)) /\ okW rtV (c 6), ⟨[], ⟨0, 0, 0, 0, 0⟩, []⟩⟩
def za6 (l : List Ls) (i : Nat) : Ls := zil lsV l i
def zek (L : za9) (l : List Ls) : AV := .lst 7 (L zab l) (fun i => lsC L (L (L za6 l) i))
def zpf (x : AV) : Prop := okW lsV x
def zp7 (x : AV) : List Ls := rdW lsV x
def zky (x : AV) : Prop := okG lsV x
def zkx (x : AV) : Ls := rdG lsV x
def clC (L : za9) (x : Cl) : Nat -> AV
 | 0 => .str (L Cl.n x)
 | _ => zk9 L (L Cl.es x)
def clV : Vw Cl := ⟨2, clC, fun c => ⟨ybn (c 0), rdW epV (c 1)⟩, fun c => isS (c 0) /\ okW epV (c 1), ⟨[], []⟩⟩
def zac (l : List Cl) (i : Nat) : Cl := zil clV l i
def ze0 (L : za9) (l : List Cl) : AV := .lst 2 (L zab l) (fun i => clC L (L (L zac l) i))
def zk4 (x : AV) : Prop := okW clV x
def zk1 (x : AV) : List Cl := rdW clV x
def zgx (x : AV) : Prop := okG clV x
def zgu (x : AV) : Cl := rdG clV x
def cfC (L : za9) (x : Cf) : Nat -> AV
 | 0 => .int .u64 (L Cf.v x)
 | 1 => zek L (L Cf.ls x)
 | _ => ze0 L (L Cf.cs x)
def cfV : Vw Cf := ⟨3, cfC, fun c => ⟨(c 0).toI, rdW lsV (c 1), rdW clV (c 2)⟩, fun c => isI .u64 (c 0) /\ okW lsV (c 1) /\ okW clV (c 2), ⟨0, [], []⟩⟩
def zdy (x : AV) : Prop := okG cfV x
def zaf (x : AV) : Cf := rdG cfV x
theorem zhz : zwq rtV := by
 refine ⟨fun c hc j hj h D μ v r => ?_, fun c x hx => ?_⟩
 · obtain ⟨h0, h1, h2, h3⟩ := hc
   match j, hj with
   | 0, _ => exact ycm h0 r
   | 1, _ => exact ycm h1 r
   | 2, _ => exact ycm h2 r
   | 3, _ => exact zrl h3 r
 · have e0 := hx 0 (by decide)
   have e1 := hx 1 (by decide)
   have e2 := hx 2 (by decide)
   have e3 := hx 3 (by decide)
   refine ⟨⟨⟨_, e0⟩, ⟨_, e1⟩, ⟨_, e2⟩, ⟨_, e3⟩⟩, ?_⟩
   show Rt.mk (ybn (c 0)) (ybn (c 1)) (ybn (c 2)) (c 3).toI = x
   rw [e0, e1, e2, e3]; rfl
theorem zf3 {c : Nat -> AV} (hc : ysm c) {j : Nat} (hj : j < 5) {h : Array Obj} {D : Nat -> Prop} {μ : Mu} {v : Value} (r : R h D μ (c j) v) : R h D μ (plC std (rdP c) j) v := by
 obtain ⟨h0, h1, h2, h3, h4⟩ := hc
 match j, hj with
 | 0, _ => exact zrl h0 r
 | 1, _ => exact zrl h1 r
 | 2, _ => exact zrl h2 r
 | 3, _ => exact zrl h3 r
 | 4, _ => exact zrl h4 r
theorem ybp {c : Nat -> AV} {x : Pl} (hx : ∀ j, j < 5 -> c j = plC std x j) : ysm c /\ rdP c = x := by
 have e0 := hx 0 (by decide)
 have e1 := hx 1 (by decide)
 have e2 := hx 2 (by decide)
 have e3 := hx 3 (by decide)
 have e4 := hx 4 (by decide)
 refine ⟨⟨⟨_, e0⟩, ⟨_, e1⟩, ⟨_, e2⟩, ⟨_, e3⟩, ⟨_, e4⟩⟩, ?_⟩
 unfold rdP
 rw [e0, e1, e2, e3, e4]; rfl
theorem zen : zwq epV := by
 refine ⟨fun c hc j hj h D μ v r => ?_, fun c x hx => ?_⟩
 · obtain ⟨h0, h1⟩ := hc
   match j, hj with
   | 0, _ => exact zf3 h0 (by omega) r
   | 1, _ => exact zf3 h0 (by omega) r
   | 2, _ => exact zf3 h0 (by omega) r
   | 3, _ => exact zf3 h0 (by omega) r
   | 4, _ => exact zf3 h0 (by omega) r
   | 5, _ => exact zrl h1 r
 · have e5 := hx 5 (by decide)
   have hp := ybp (c := c) (x := x.pl) (fun j hj => by
     match j, hj with
     | 0, _ => exact hx 0 (by decide)
     | 1, _ => exact hx 1 (by decide)
     | 2, _ => exact hx 2 (by decide)
     | 3, _ => exact hx 3 (by decide)
     | 4, _ => exact hx 4 (by decide))
   refine ⟨⟨hp.1, ⟨_, e5⟩⟩, ?_⟩
   show Ep.mk (rdP c) (c 5).toI = x
   rw [hp.2, e5]; rfl
theorem zd3 : zwq lsV := by
 refine ⟨fun c hc j hj h D μ v r => ?_, fun c x hx => ?_⟩
 · obtain ⟨h0, h1, h2⟩ := hc
   match j, hj with
   | 0, _ => exact ycm h0 r
   | 1, _ => exact zf3 (c := fun j => c (j + 1)) h1 (j := 0) (by omega) r
   | 2, _ => exact zf3 (c := fun j => c (j + 1)) h1 (j := 1) (by omega) r
   | 3, _ => exact zf3 (c := fun j => c (j + 1)) h1 (j := 2) (by omega) r
   | 4, _ => exact zf3 (c := fun j => c (j + 1)) h1 (j := 3) (by omega) r
   | 5, _ => exact zf3 (c := fun j => c (j + 1)) h1 (j := 4) (by omega) r
   | 6, _ => exact zxv zhz h2 r
 · have e0 := hx 0 (by decide)
   have e6 := hx 6 (by decide)
   have hp := ybp (c := fun j => c (j + 1)) (x := x.pl) (fun j hj => by
     match j, hj with
     | 0, _ => exact hx 1 (by decide)
     | 1, _ => exact hx 2 (by decide)
     | 2, _ => exact hx 3 (by decide)
     | 3, _ => exact hx 4 (by decide)
     | 4, _ => exact hx 5 (by decide))
   have e6 : c 6 = ycf std rtV x.rs := e6
   obtain ⟨k1, k2⟩ := zdx zhz x.rs
   rw [<- e6] at k1 k2
   refine ⟨⟨⟨_, e0⟩, hp.1, k1⟩, ?_⟩
   show Ls.mk (ybn (c 0)) (rdP fun j => c (j + 1)) (rdW rtV (c 6)) = x
   rw [hp.2, k2, e0]; rfl
theorem zc4 : zwq clV := by
 refine ⟨fun c hc j hj h D μ v r => ?_, fun c x hx => ?_⟩
 · obtain ⟨h0, h1⟩ := hc
   match j, hj with
   | 0, _ => exact ycm h0 r
   | 1, _ => exact zxv zen h1 r
 · have e0 := hx 0 (by decide)
   have e1 : c 1 = ycf std epV x.es := hx 1 (by decide)
   obtain ⟨k1, k2⟩ := zdx zen x.es
   rw [<- e1] at k1 k2
   refine ⟨⟨⟨_, e0⟩, k1⟩, ?_⟩
   show Cl.mk (ybn (c 0)) (rdW epV (c 1)) = x
   rw [k2, e0]; rfl
theorem zdv : zwq cfV := by
 refine ⟨fun c hc j hj h D μ v r => ?_, fun c x hx => ?_⟩
 · obtain ⟨h0, h1, h2⟩ := hc
   match j, hj with
   | 0, _ => exact zrl h0 r
   | 1, _ => exact zxv zd3 h1 r
   | 2, _ => exact zxv zc4 h2 r
 · have e0 := hx 0 (by decide)
   have e1 : c 1 = ycf std lsV x.ls := hx 1 (by decide)
   have e2 : c 2 = ycf std clV x.cs := hx 2 (by decide)
   obtain ⟨k1, k2⟩ := zdx zd3 x.ls
   obtain ⟨k3, k4⟩ := zdx zc4 x.cs
   rw [<- e1] at k1 k2
   rw [<- e2] at k3 k4
   refine ⟨⟨⟨_, e0⟩, k1, k3⟩, ?_⟩
   show Cf.mk (c 0).toI (rdW lsV (c 1)) (rdW clV (c 2)) = x
   rw [k2, k4, e0]; rfl
theorem ziz {α : Type} {V : Vw α} (val : α -> CV) {l : List α} {i : Nat} (h : i < l.length) : zd9 (l.map val) i = val (zil V l i) := by
 rw [zat h, zd9, List.getD_eq_getElem?_getD, List.getElem?_eq_getElem (by simpa using h)]; simp
theorem zle {α : Type} {V : Vw α} {val : α -> CV} {l : List α} {n : Nat} (h : n = l.length) :
   rdL (.lst 4 n fun q j => cv1 std (val (zil V l q)) j) = l.map val /\ okL (.lst 4 n fun q j => cv1 std (val (zil V l q)) j) :=
 zv6 (by simpa using h) fun i j hi hj => by rw [zue _ _ hj, ziz (V := V) val (by omega)]
def zwi : List CV -> List AV
 | [] => []
 | v :: l => .int .i64 v.kd :: .int .u64 v.nn :: .str v.tx :: .lst 4 (zn9 v) (zlg v) :: zwi l
theorem zsa : ∀ (l : List CV) (i j : Nat), i < l.length -> j < 4 -> zbb .dead (zwi l) (i * 4 + j) = zeo (zd9 l i) j
 | [], i, j, hi, _ => by simp at hi
 | v :: l, 0, j, _, hj => by
   match j, hj with
   | 0, _ => exact (zgb v).symm
   | 1, _ => exact (zga v).symm
   | 2, _ => exact (zg9 v).symm
   | 3, _ => exact (zg8 v).symm
 | v :: l, i + 1, j, hi, hj => by
   rw [show (i + 1) * 4 + j = i * 4 + j + 4 by omega]
   exact zsa l i j (by simpa using hi) hj
theorem zmv (l : List CV) {n : Nat} {cs : List AV} (hn : n = l.length) (h : cs = zwi l) : rdL (.lst 4 n fun i j => zbb .dead cs (i * 4 + j)) = l /\ okL (.lst 4 n fun i j => zbb .dead cs (i * 4 + j)) :=
 zv6 hn fun i j hi hj => by rw [h]; exact zsa l i j (by omega) hj
theorem zs4 {v w : CV} (h : v = w) : zgn (cvA std v) (.agg [.int .i64 w.kd, .int .u64 w.nn, .str w.tx, .lst 4 (zn9 w) (zlg w)]) := by
 subst h
 show zgn (.agg [.int .i64 v.kd, .int .u64 v.nn, .str v.tx, .lst 4 (zn9 v) (zlg v)]) _
 simp [zh7, zbt, zc6, zdm, zc7]
theorem zjx (l : List CV) {v : CV} {n : Nat} {cs : List AV} (hv : v = zdw l) (hn : n = l.length) (hl : l.length <= 4) (h : cs = zwi l) :
   (okL (.lst 4 n fun i j => zbb .dead cs (i * 4 + j)) /\ yci (rdL (.lst 4 n fun i j => zbb .dead cs (i * 4 + j)))) /\
   ∀ {w : CV}, w = zdw (rdL (.lst 4 n fun i j => zbb .dead cs (i * 4 + j))) -> zgn (cvA std v) (.agg [.int .i64 w.kd, .int .u64 w.nn, .str w.tx, .lst 4 (zn9 w) (zlg w)]) := by
 obtain ⟨k1, k2⟩ := zmv l hn h
 refine ⟨⟨k2, ?_⟩, fun {w} hw => zs4 ?_⟩
 · rw [k1]
   show l.length <= 1000000
   omega
 · rw [hw, k1, hv]
def zso {α : Type} (f : Nat) (ok : AV -> Prop) (rd : AV -> α) (pre : α -> Prop) (val : α -> CV) (L : za9) : zdq := (f, fun xs => match xs with
 | [x] => some (L ok x /\ L pre (L rd x), cvA L (L val (L rd x)))
 | _ => none)
def zee {α : Type} (l : List α) : Prop := l.length <= 1000000
def zwp {α : Type} (p : α -> Prop) (l : List α) : Prop := ∀ x ∈ l, p x
def zmp {α : Type} (val : α -> CV) (l : List α) : CV := zdw (l.map val)
def zkz {α : Type} (f g : Nat) (ok : AV -> Prop) (rd : AV -> List α) (pre : List α -> Prop) (val : List α -> CV) (L : za9) : zdq := (f, fun xs => match xs with
 | [x, .fn k [] []] => match za8 k g with
   | true => some (L ok x /\ L zee (L rd x) /\ L pre (L rd x), cvA L (L val (L rd x)))
   | false => none
 | _ => none)
def yi1 {α : Type} (L : za9) (nth : List α -> Nat -> α) (val : α -> CV) (l : List α) : Nat -> St -> Option Ann := fun id st => match id with
 | 0 => some ⟨Nat, fun i => [(10, .int .i64 (L zbh i)), (4, .ref 4 0), (5, .sl 900 4 0 i)], fun i => [(900, .row 109 4 i (fun q j => cv1 L (L val (L (L nth l) q)) j)), (4, .box 109 [.dead, .dead, .dead, .dead])], [0, 1, 8, 9], [],
     fun i => L2 L (fun (l : List α) i => i <= l.length) l i, fun i => L2 L (fun (l : List α) (i : Nat) => l.length - i) l i⟩
 | _ => none
def zfx (x : Rt) : CV := zdw [zhd x.h, zhd x.p, zhd x.c, zg1 x.i]
def zg7 (x : Ep) : CV := zdw [zhd (plB x.pl), zg1 (x.w % 18446744073709551616)]
def zxj (x : Rt) : Prop := True
def zyz (x : Ep) : Prop := zqd x.pl
def zqy (l : List Rt) : CV := zmp zfx l
def zs0 (l : List Ep) : CV := zmp zg7 l
def yj3 (l : List Rt) : Prop := zwp zxj l
def ydg (l : List Ep) : Prop := zwp zyz l
theorem zxm : zbp Tryz.prog (zso 89 yg6 yfr zxj zfx std) := by
 intro xs p r h hp
 dsimp only [zso] at h |-
 split at h <;> cases h
 try simp only [L2, L3, std] at hp |-
 rename_i x
 refine zss zhz hp.1 ?_
 have hp := hp.2
 show za5 _ _ _ (cvA std (zfx (rdG rtV x)))
 have hp : zxj (rdG rtV x) := hp
 generalize rdG rtV x = y at hp |-
 refine za4 (T := tt) (S := fun L => zb7 [zwv L, zxx L, zgg L]) (lo := fun _ => noA std) (lb := noA) 5 (fn := Tryz.f89) (xs := fun L => [.agg [.str (L Rt.h y), .str (L Rt.p y), .str (L Rt.c y), .int .u64 (L Rt.i y)]]) rfl rfl (by kernel_rfl) (by kernel_rfl) rfl zad (za7 ⟨zl1, zl6, zct, trivial⟩) (by kernel_rfl) ?_
 intro L P' Q' hL hP hQ
 (cbv; try simp only [syT, true_and, and_true])
 (subst hL; subst hQ; simp only [L2, L3, std] at *; try simp only [syS, reduceCtorEq, Int.reduceToNat, Int.reduceAdd, Int.reduceSub] at *)
 exact ⟨(zjx [zhd y.h, zhd y.p, zhd y.c, zg1 y.i] (v := zfx y) (n := 4) rfl rfl (Nat.le_of_ble_eq_true rfl) rfl).1, (zjx [zhd y.h, zhd y.p, zhd y.c, zg1 y.i] (v := zfx y) (n := 4) rfl rfl (Nat.le_of_ble_eq_true rfl) rfl).2 rfl⟩
theorem zq4 : zbp Tryz.prog (zso 91 zph zp9 zyz zg7 std) := by
 intro xs p r h hp
 dsimp only [zso] at h |-
 split at h <;> cases h
 try simp only [L2, L3, std] at hp |-
 rename_i x
 refine zss zen hp.1 ?_
 have hp := hp.2
 show za5 _ _ _ (cvA std (zg7 (rdG epV x)))
 have hp : zyz (rdG epV x) := hp
 generalize rdG epV x = y at hp |-
 refine za4 (T := tt) (S := fun L => zb7 [zwv L, zxx L, zgg L, zq8 L]) (lo := fun _ => noA std) (lb := noA) 5 (fn := Tryz.f91) (xs := fun L => [.agg [.int .u8 (L Pl.a (L Ep.pl y)), .int .u8 (L Pl.b (L Ep.pl y)), .int .u8 (L Pl.c (L Ep.pl y)), .int .u8 (L Pl.d (L Ep.pl y)), .int .u16 (L Pl.p (L Ep.pl y)), .int .i64 (L Ep.w y)]]) rfl rfl (by kernel_rfl) (by kernel_rfl) rfl zad (za7 ⟨zl1, zl6, zct, zol, trivial⟩) (by kernel_rfl) ?_
 intro L P' Q' hL hP hQ
 (cbv; try simp only [syT, true_and, and_true])
 (subst hL; subst hQ; simp only [L2, L3, std] at *; try simp only [syS, reduceCtorEq, Int.reduceToNat, Int.reduceAdd, Int.reduceSub] at *)
 refine ⟨hp, (zjx [zhd (plB y.pl), zg1 (y.w % 18446744073709551616)] (v := zg7 y) (n := 2) rfl rfl (Nat.le_of_ble_eq_true rfl) rfl).1, (zjx [zhd (plB y.pl), zg1 (y.w % 18446744073709551616)] (v := zg7 y) (n := 2) rfl rfl (Nat.le_of_ble_eq_true rfl) rfl).2 rfl⟩
theorem zu8 (ih : zbp Tryz.prog (zso 89 yg6 yfr zxj zfx std)) : zbp Tryz.prog (zkz 88 89 yby ybm yj3 zqy std) := by
 intro xs p r h hp
 unfold zkz at h
 simp only at h
 split at h
 rotate_left
 · cases h
 rename_i x k
 cases hk : za8 k 89 with
 | false => rw [hk] at h; cases h
 | true =>
 rw [hk] at h
 obtain rfl : k = 89 := of_decide_eq_true hk
 cases h
 obtain ⟨ho, hz, ha⟩ := hp
 refine zhx zhz ho ?_
 have hz : zee (rdW rtV x) := hz
 have ha : zwp zxj (rdW rtV x) := ha
 show za5 _ _ _ (cvA std (zmp zfx (rdW rtV x)))
 generalize rdW rtV x = l at hz ha |-
 refine za4 (T := tt) (S := fun L => zb7 [zso 89 yg6 yfr zxj zfx L, zgg L]) (lo := fun L => yi1 L zbq zfx l) (lb := noA) 5 (fn := Tryz.f88) (xs := fun L => [znj L l, .fn 89 [] []]) rfl rfl (by kernel_rfl) (by kernel_rfl) rfl zad
   (za7 ⟨ih, zct, trivial⟩) (by kernel_rfl) ?_
 intro L P' Q' hL hP hQ
 (cbv; try simp only [syT, true_and, and_true])
 refine ⟨⟨0, ?_⟩, fun i hi => ?_⟩
 · (cbv; try simp only [syT, true_and, and_true])
   (subst hL; subst hQ; simp only [L2, L3, std] at *; try simp only [syS, reduceCtorEq, Int.reduceToNat, Int.reduceAdd, Int.reduceSub] at *)
   exact Nat.zero_le _
 · cbv at hi
   have hG : ∀ y : Rt, L yfr (.agg [.str (L Rt.h y), .str (L Rt.p y), .str (L Rt.c y), .int .u64 (L Rt.i y)]) = y := by subst hL; exact fun y => (gK zhz y _ rfl).2
   have hO : ∀ y : Rt, L yg6 (.agg [.str (L Rt.h y), .str (L Rt.p y), .str (L Rt.c y), .int .u64 (L Rt.i y)]) := by subst hL; exact fun y => (gK zhz y _ rfl).1
   (cbv; try simp only [syT, true_and, and_true])
   simp only [hG, hO, true_and]
   refine ⟨fun hlt => ⟨?_, ?_, ?_, ⟨i + 1, ?_⟩⟩, fun hge => ?_⟩
   · (subst hL; subst hQ; simp only [L2, L3, std] at *; try simp only [syS, reduceCtorEq, Int.reduceToNat, Int.reduceAdd, Int.reduceSub] at *)
     omega
   · (subst hL; subst hQ; simp only [L2, L3, std] at *; try simp only [syS, reduceCtorEq, Int.reduceToNat, Int.reduceAdd, Int.reduceSub] at *)
     exact ha _ (by rw [zbq, zat (V := rtV) (by have : zab l = l.length := rfl; omega)]; exact List.getElem_mem _)
   · (subst hL; subst hQ; simp only [L2, L3, std] at *; try simp only [syS, reduceCtorEq, Int.reduceToNat, Int.reduceAdd, Int.reduceSub] at *)
     have : zab l = l.length := rfl
     have : l.length <= 1000000 := hz
     omega
   · (cbv; try simp only [syT, true_and, and_true])
     try simp only [hG]
     (subst hL; subst hQ; simp only [L2, L3, std] at *; try simp only [syS, reduceCtorEq, Int.reduceToNat, Int.reduceAdd, Int.reduceSub] at *)
     have : zab l = l.length := rfl
     have : l.length <= 1000000 := hz
     exact ⟨fun q j hq hj => zq6 (fun q => zfx (zbq l q)) hq hj, by omega, by omega, by omega⟩
   · (subst hL; subst hQ; simp only [L2, L3, std] at *; try simp only [syS, reduceCtorEq, Int.reduceToNat, Int.reduceAdd, Int.reduceSub] at *)
     have : zab l = l.length := rfl
     obtain ⟨k1, k2⟩ := zle (V := rtV) (val := zfx) (l := l) (n := i) (by omega)
     refine ⟨⟨k2, ?_⟩, zs4 ?_⟩
     · show List.length _ <= 1000000
       have k1 : rdL (.lst 4 i fun q j => cv1 std (zfx (zbq l q)) j) = l.map zfx := k1
       rw [k1, List.length_map]; exact hz
     · exact (congrArg zdw k1).symm
theorem zua (ih : zbp Tryz.prog (zso 91 zph zp9 zyz zg7 std)) : zbp Tryz.prog (zkz 90 91 zpg zp8 ydg zs0 std) := by
 intro xs p r h hp
 unfold zkz at h
 simp only at h
 split at h
 rotate_left
 · cases h
 rename_i x k
 cases hk : za8 k 91 with
 | false => rw [hk] at h; cases h
 | true =>
 rw [hk] at h
 obtain rfl : k = 91 := of_decide_eq_true hk
 cases h
 obtain ⟨ho, hz, ha⟩ := hp
 refine zhx zen ho ?_
 have hz : zee (rdW epV x) := hz
 have ha : zwp zyz (rdW epV x) := ha
 show za5 _ _ _ (cvA std (zmp zg7 (rdW epV x)))
 generalize rdW epV x = l at hz ha |-
 refine za4 (T := tt) (S := fun L => zb7 [zso 91 zph zp9 zyz zg7 L, zgg L]) (lo := fun L => yi1 L zc9 zg7 l) (lb := noA) 5 (fn := Tryz.f90) (xs := fun L => [zk9 L l, .fn 91 [] []]) rfl rfl (by kernel_rfl) (by kernel_rfl) rfl zad
   (za7 ⟨ih, zct, trivial⟩) (by kernel_rfl) ?_
 intro L P' Q' hL hP hQ
 (cbv; try simp only [syT, true_and, and_true])
 refine ⟨⟨0, ?_⟩, fun i hi => ?_⟩
 · (cbv; try simp only [syT, true_and, and_true])
   (subst hL; subst hQ; simp only [L2, L3, std] at *; try simp only [syS, reduceCtorEq, Int.reduceToNat, Int.reduceAdd, Int.reduceSub] at *)
   exact Nat.zero_le _
 · cbv at hi
   have hG : ∀ y : Ep, L zp9 (.agg [.int .u8 (L Pl.a (L Ep.pl y)), .int .u8 (L Pl.b (L Ep.pl y)), .int .u8 (L Pl.c (L Ep.pl y)), .int .u8 (L Pl.d (L Ep.pl y)), .int .u16 (L Pl.p (L Ep.pl y)), .int .i64 (L Ep.w y)]) = y := by subst hL; exact fun y => (gK zen y _ rfl).2
   have hO : ∀ y : Ep, L zph (.agg [.int .u8 (L Pl.a (L Ep.pl y)), .int .u8 (L Pl.b (L Ep.pl y)), .int .u8 (L Pl.c (L Ep.pl y)), .int .u8 (L Pl.d (L Ep.pl y)), .int .u16 (L Pl.p (L Ep.pl y)), .int .i64 (L Ep.w y)]) := by subst hL; exact fun y => (gK zen y _ rfl).1
   (cbv; try simp only [syT, true_and, and_true])
   simp only [hG, hO, true_and]
   refine ⟨fun hlt => ⟨?_, ?_, ?_, ⟨i + 1, ?_⟩⟩, fun hge => ?_⟩
   · (subst hL; subst hQ; simp only [L2, L3, std] at *; try simp only [syS, reduceCtorEq, Int.reduceToNat, Int.reduceAdd, Int.reduceSub] at *)
     omega
   · (subst hL; subst hQ; simp only [L2, L3, std] at *; try simp only [syS, reduceCtorEq, Int.reduceToNat, Int.reduceAdd, Int.reduceSub] at *)
     exact ha _ (by rw [zc9, zat (V := epV) (by have : zab l = l.length := rfl; omega)]; exact List.getElem_mem _)
   · (subst hL; subst hQ; simp only [L2, L3, std] at *; try simp only [syS, reduceCtorEq, Int.reduceToNat, Int.reduceAdd, Int.reduceSub] at *)
     have : zab l = l.length := rfl
     have : l.length <= 1000000 := hz
     omega
   · (cbv; try simp only [syT, true_and, and_true])
     try simp only [hG]
     (subst hL; subst hQ; simp only [L2, L3, std] at *; try simp only [syS, reduceCtorEq, Int.reduceToNat, Int.reduceAdd, Int.reduceSub] at *)
     have : zab l = l.length := rfl
     have : l.length <= 1000000 := hz
     exact ⟨fun q j hq hj => zq6 (fun q => zg7 (zc9 l q)) hq hj, by omega, by omega, by omega⟩
   · (subst hL; subst hQ; simp only [L2, L3, std] at *; try simp only [syS, reduceCtorEq, Int.reduceToNat, Int.reduceAdd, Int.reduceSub] at *)
     have : zab l = l.length := rfl
     obtain ⟨k1, k2⟩ := zle (V := epV) (val := zg7) (l := l) (n := i) (by omega)
     refine ⟨⟨k2, ?_⟩, zs4 ?_⟩
     · show List.length _ <= 1000000
       have k1 : rdL (.lst 4 i fun q j => cv1 std (zg7 (zc9 l q)) j) = l.map zg7 := k1
       rw [k1, List.length_map]; exact hz
     · exact (congrArg zdw k1).symm
def zgl (x : Ls) : CV := zdw [zhd x.n, zhd (plB x.pl), zqy x.rs]
def zgo (x : Cl) : CV := zdw [zhd x.n, zs0 x.es]
def zy7 (x : Ls) : Prop := zqd x.pl /\ zee x.rs
def zz4 (x : Cl) : Prop := zee x.es /\ ydg x.es
def zvs (l : List Ls) : CV := zmp zgl l
def zwg (l : List Cl) : CV := zmp zgo l
def yjj (l : List Ls) : Prop := zwp zy7 l
def yk3 (l : List Cl) : Prop := zwp zz4 l
theorem yps (l : List Rt) : ybm (.lst 4 (zab l) fun i => rtC std (zbq l i)) = l := (zdx zhz l).2
theorem ylj (l : List Rt) : yby (.lst 4 (zab l) fun i => rtC std (zbq l i)) := (zdx zhz l).1
theorem yfp (l : List Ep) : zp8 (.lst 6 (zab l) fun i => epC std (zc9 l i)) = l := (zdx zen l).2
theorem ybx (l : List Ep) : zpg (.lst 6 (zab l) fun i => epC std (zc9 l i)) := (zdx zen l).1
theorem yfo (l : List Ls) : zp7 (.lst 7 (zab l) fun i => lsC std (za6 l i)) = l := (zdx zd3 l).2
theorem ybw (l : List Ls) : zpf (.lst 7 (zab l) fun i => lsC std (za6 l i)) := (zdx zd3 l).1
theorem zxp (l : List Cl) : zk1 (.lst 2 (zab l) fun i => clC std (zac l i)) = l := (zdx zc4 l).2
theorem zti (l : List Cl) : zk4 (.lst 2 (zab l) fun i => clC std (zac l i)) := (zdx zc4 l).1
theorem zpq : zbp Tryz.prog (zso 55 zky zkx zy7 zgl std) := by
 intro xs p r h hp
 dsimp only [zso] at h |-
 split at h <;> cases h
 try simp only [L2, L3, std] at hp |-
 rename_i x
 refine zss zd3 hp.1 ?_
 have hp := hp.2
 show za5 _ _ _ (cvA std (zgl (rdG lsV x)))
 have hp : zy7 (rdG lsV x) := hp
 generalize rdG lsV x = y at hp |-
 refine za4 (T := tt) (S := fun L => zb7 [zwv L, zgg L, zq8 L, zkz 88 89 yby ybm yj3 zqy L]) (lo := fun _ => noA std) (lb := noA) 5 (fn := Tryz.f55) (xs := fun L => [.agg [.str (L Ls.n y), .int .u8 (L Pl.a (L Ls.pl y)), .int .u8 (L Pl.b (L Ls.pl y)), .int .u8 (L Pl.c (L Ls.pl y)), .int .u8 (L Pl.d (L Ls.pl y)), .int .u16 (L Pl.p (L Ls.pl y)), znj L (L Ls.rs y)]]) rfl rfl (by kernel_rfl) (by kernel_rfl) rfl zad (za7 ⟨zl1, zct, zol, zu8 zxm, trivial⟩) (by kernel_rfl) ?_
 intro L P' Q' hL hP hQ
 (cbv; try simp only [syT, true_and, and_true])
 (subst hL; subst hQ; simp only [L2, L3, std] at *; try simp only [syS, reduceCtorEq, Int.reduceToNat, Int.reduceAdd, Int.reduceSub] at *)
 simp only [yps]
 obtain ⟨k1, k2⟩ := zjx [zhd y.n, zhd (plB y.pl), zqy y.rs] (v := zgl y) (n := 3) rfl rfl (Nat.le_of_ble_eq_true rfl) rfl
 exact ⟨hp.1, ⟨ylj _, hp.2, fun _ _ => trivial⟩, k1, k2 rfl⟩
theorem zs5 : zbp Tryz.prog (zso 57 zgx zgu zz4 zgo std) := by
 intro xs p r h hp
 dsimp only [zso] at h |-
 split at h <;> cases h
 try simp only [L2, L3, std] at hp |-
 rename_i x
 refine zss zc4 hp.1 ?_
 have hp := hp.2
 show za5 _ _ _ (cvA std (zgo (rdG clV x)))
 have hp : zz4 (rdG clV x) := hp
 generalize rdG clV x = y at hp |-
 refine za4 (T := tt) (S := fun L => zb7 [zwv L, zgg L, zkz 90 91 zpg zp8 ydg zs0 L]) (lo := fun _ => noA std) (lb := noA) 5 (fn := Tryz.f57) (xs := fun L => [.agg [.str (L Cl.n y), zk9 L (L Cl.es y)]]) rfl rfl (by kernel_rfl) (by kernel_rfl) rfl zad (za7 ⟨zl1, zct, zua zq4, trivial⟩) (by kernel_rfl) ?_
 intro L P' Q' hL hP hQ
 (cbv; try simp only [syT, true_and, and_true])
 (subst hL; subst hQ; simp only [L2, L3, std] at *; try simp only [syS, reduceCtorEq, Int.reduceToNat, Int.reduceAdd, Int.reduceSub] at *)
 simp only [yfp]
 obtain ⟨k1, k2⟩ := zjx [zhd y.n, zs0 y.es] (v := zgo y) (n := 2) rfl rfl (Nat.le_of_ble_eq_true rfl) rfl
 exact ⟨⟨ybx _, hp.1, hp.2⟩, k1, k2 rfl⟩
theorem zu9 (ih : zbp Tryz.prog (zso 55 zky zkx zy7 zgl std)) : zbp Tryz.prog (zkz 54 55 zpf zp7 yjj zvs std) := by
 intro xs p r h hp
 unfold zkz at h
 simp only at h
 split at h
 rotate_left
 · cases h
 rename_i x k
 cases hk : za8 k 55 with
 | false => rw [hk] at h; cases h
 | true =>
 rw [hk] at h
 obtain rfl : k = 55 := of_decide_eq_true hk
 cases h
 obtain ⟨ho, hz, ha⟩ := hp
 refine zhx zd3 ho ?_
 have hz : zee (rdW lsV x) := hz
 have ha : zwp zy7 (rdW lsV x) := ha
 show za5 _ _ _ (cvA std (zmp zgl (rdW lsV x)))
 generalize rdW lsV x = l at hz ha |-
 refine za4 (T := tt) (S := fun L => zb7 [zso 55 zky zkx zy7 zgl L, zgg L]) (lo := fun L => yi1 L za6 zgl l) (lb := noA) 5 (fn := Tryz.f54) (xs := fun L => [zek L l, .fn 55 [] []]) rfl rfl (by kernel_rfl) (by kernel_rfl) rfl zad
   (za7 ⟨ih, zct, trivial⟩) (by kernel_rfl) ?_
 intro L P' Q' hL hP hQ
 (cbv; try simp only [syT, true_and, and_true])
 refine ⟨⟨0, ?_⟩, fun i hi => ?_⟩
 · (cbv; try simp only [syT, true_and, and_true])
   (subst hL; subst hQ; simp only [L2, L3, std] at *; try simp only [syS, reduceCtorEq, Int.reduceToNat, Int.reduceAdd, Int.reduceSub] at *)
   exact Nat.zero_le _
 · cbv at hi
   have hG : ∀ y : Ls, L zkx (.agg [.str (L Ls.n y), .int .u8 (L Pl.a (L Ls.pl y)), .int .u8 (L Pl.b (L Ls.pl y)), .int .u8 (L Pl.c (L Ls.pl y)), .int .u8 (L Pl.d (L Ls.pl y)), .int .u16 (L Pl.p (L Ls.pl y)), .lst 4 (L zab (L Ls.rs y)) (fun i => rtC L (L (L zbq (L Ls.rs y)) i))]) = y := by subst hL; exact fun y => (gK zd3 y _ rfl).2
   have hO : ∀ y : Ls, L zky (.agg [.str (L Ls.n y), .int .u8 (L Pl.a (L Ls.pl y)), .int .u8 (L Pl.b (L Ls.pl y)), .int .u8 (L Pl.c (L Ls.pl y)), .int .u8 (L Pl.d (L Ls.pl y)), .int .u16 (L Pl.p (L Ls.pl y)), .lst 4 (L zab (L Ls.rs y)) (fun i => rtC L (L (L zbq (L Ls.rs y)) i))]) := by subst hL; exact fun y => (gK zd3 y _ rfl).1
   (cbv; try simp only [syT, true_and, and_true])
   simp only [hG, hO, true_and]
   refine ⟨fun hlt => ⟨?_, ?_, ?_, ⟨i + 1, ?_⟩⟩, fun hge => ?_⟩
   · (subst hL; subst hQ; simp only [L2, L3, std] at *; try simp only [syS, reduceCtorEq, Int.reduceToNat, Int.reduceAdd, Int.reduceSub] at *)
     omega
   · (subst hL; subst hQ; simp only [L2, L3, std] at *; try simp only [syS, reduceCtorEq, Int.reduceToNat, Int.reduceAdd, Int.reduceSub] at *)
     exact ha _ (by rw [za6, zat (V := lsV) (by have : zab l = l.length := rfl; omega)]; exact List.getElem_mem _)
   · (subst hL; subst hQ; simp only [L2, L3, std] at *; try simp only [syS, reduceCtorEq, Int.reduceToNat, Int.reduceAdd, Int.reduceSub] at *)
     have : zab l = l.length := rfl
     have : l.length <= 1000000 := hz
     omega
   · (cbv; try simp only [syT, true_and, and_true])
     try simp only [hG]
     (subst hL; subst hQ; simp only [L2, L3, std] at *; try simp only [syS, reduceCtorEq, Int.reduceToNat, Int.reduceAdd, Int.reduceSub] at *)
     have : zab l = l.length := rfl
     have : l.length <= 1000000 := hz
     exact ⟨fun q j hq hj => zq6 (fun q => zgl (za6 l q)) hq hj, by omega, by omega, by omega⟩
   · (subst hL; subst hQ; simp only [L2, L3, std] at *; try simp only [syS, reduceCtorEq, Int.reduceToNat, Int.reduceAdd, Int.reduceSub] at *)
     have : zab l = l.length := rfl
     obtain ⟨k1, k2⟩ := zle (V := lsV) (val := zgl) (l := l) (n := i) (by omega)
     refine ⟨⟨k2, ?_⟩, zs4 ?_⟩
     · show List.length _ <= 1000000
       have k1 : rdL (.lst 4 i fun q j => cv1 std (zgl (za6 l q)) j) = l.map zgl := k1
       rw [k1, List.length_map]; exact hz
     · exact (congrArg zdw k1).symm
theorem zub (ih : zbp Tryz.prog (zso 57 zgx zgu zz4 zgo std)) : zbp Tryz.prog (zkz 56 57 zk4 zk1 yk3 zwg std) := by
 intro xs p r h hp
 unfold zkz at h
 simp only at h
 split at h
 rotate_left
 · cases h
 rename_i x k
 cases hk : za8 k 57 with
 | false => rw [hk] at h; cases h
 | true =>
 rw [hk] at h
 obtain rfl : k = 57 := of_decide_eq_true hk
 cases h
 obtain ⟨ho, hz, ha⟩ := hp
 refine zhx zc4 ho ?_
 have hz : zee (rdW clV x) := hz
 have ha : zwp zz4 (rdW clV x) := ha
 show za5 _ _ _ (cvA std (zmp zgo (rdW clV x)))
 generalize rdW clV x = l at hz ha |-
 refine za4 (T := tt) (S := fun L => zb7 [zso 57 zgx zgu zz4 zgo L, zgg L]) (lo := fun L => yi1 L zac zgo l) (lb := noA) 5 (fn := Tryz.f56) (xs := fun L => [ze0 L l, .fn 57 [] []]) rfl rfl (by kernel_rfl) (by kernel_rfl) rfl zad
   (za7 ⟨ih, zct, trivial⟩) (by kernel_rfl) ?_
 intro L P' Q' hL hP hQ
 (cbv; try simp only [syT, true_and, and_true])
 refine ⟨⟨0, ?_⟩, fun i hi => ?_⟩
 · (cbv; try simp only [syT, true_and, and_true])
   (subst hL; subst hQ; simp only [L2, L3, std] at *; try simp only [syS, reduceCtorEq, Int.reduceToNat, Int.reduceAdd, Int.reduceSub] at *)
   exact Nat.zero_le _
 · cbv at hi
   have hG : ∀ y : Cl, L zgu (.agg [.str (L Cl.n y), .lst 6 (L zab (L Cl.es y)) (fun i => epC L (L (L zc9 (L Cl.es y)) i))]) = y := by subst hL; exact fun y => (gK zc4 y _ rfl).2
   have hO : ∀ y : Cl, L zgx (.agg [.str (L Cl.n y), .lst 6 (L zab (L Cl.es y)) (fun i => epC L (L (L zc9 (L Cl.es y)) i))]) := by subst hL; exact fun y => (gK zc4 y _ rfl).1
   (cbv; try simp only [syT, true_and, and_true])
   simp only [hG, hO, true_and]
   refine ⟨fun hlt => ⟨?_, ?_, ?_, ⟨i + 1, ?_⟩⟩, fun hge => ?_⟩
   · (subst hL; subst hQ; simp only [L2, L3, std] at *; try simp only [syS, reduceCtorEq, Int.reduceToNat, Int.reduceAdd, Int.reduceSub] at *)
     omega
   · (subst hL; subst hQ; simp only [L2, L3, std] at *; try simp only [syS, reduceCtorEq, Int.reduceToNat, Int.reduceAdd, Int.reduceSub] at *)
     exact ha _ (by rw [zac, zat (V := clV) (by have : zab l = l.length := rfl; omega)]; exact List.getElem_mem _)
   · (subst hL; subst hQ; simp only [L2, L3, std] at *; try simp only [syS, reduceCtorEq, Int.reduceToNat, Int.reduceAdd, Int.reduceSub] at *)
     have : zab l = l.length := rfl
     have : l.length <= 1000000 := hz
     omega
   · (cbv; try simp only [syT, true_and, and_true])
     try simp only [hG]
     (subst hL; subst hQ; simp only [L2, L3, std] at *; try simp only [syS, reduceCtorEq, Int.reduceToNat, Int.reduceAdd, Int.reduceSub] at *)
     have : zab l = l.length := rfl
     have : l.length <= 1000000 := hz
     exact ⟨fun q j hq hj => zq6 (fun q => zgo (zac l q)) hq hj, by omega, by omega, by omega⟩
   · (subst hL; subst hQ; simp only [L2, L3, std] at *; try simp only [syS, reduceCtorEq, Int.reduceToNat, Int.reduceAdd, Int.reduceSub] at *)
     have : zab l = l.length := rfl
     obtain ⟨k1, k2⟩ := zle (V := clV) (val := zgo) (l := l) (n := i) (by omega)
     refine ⟨⟨k2, ?_⟩, zs4 ?_⟩
     · show List.length _ <= 1000000
       have k1 : rdL (.lst 4 i fun q j => cv1 std (zgo (zac l q)) j) = l.map zgo := k1
       rw [k1, List.length_map]; exact hz
     · exact (congrArg zdw k1).symm
def prS {α : Type} (f : Nat) (ok : AV -> Prop) (rd : AV -> α) (p : α -> Bool) (pre : α -> Prop) (L : za9) : zdq := (f, fun xs => match xs with
 | [x] => some (L ok x /\ L pre (L rd x), .bool (L p (L rd x)))
 | _ => none)
def zzm {α : Type} (f g : Nat) (ok : AV -> Prop) (rd : AV -> List α) (idx : List α -> Int) (pre : List α -> Prop) (L : za9) : zdq := (f, fun xs => match xs with
 | [x, .fn k [] []] => match za8 k g with
   | true => some (L ok x /\ L zee (L rd x) /\ L pre (L rd x), .int .i64 (L idx (L rd x)))
   | false => none
 | _ => none)
def zzq {α : Type} (f g : Nat) (ok : AV -> Prop) (rd : AV -> List α) (any : List α -> Bool) (pre : List α -> Prop) (L : za9) : zdq := (f, fun xs => match xs with
 | [x, .fn k [] []] => match za8 k g with
   | true => some (L ok x /\ L zee (L rd x) /\ L pre (L rd x), .bool (L any (L rd x)))
   | false => none
 | _ => none)
def ixA {α : Type} (L : za9) (none : List α -> Nat -> Prop) (l : List α) : Nat -> St -> Option Ann := fun id st => match id with
 | 0 => some ⟨Nat, fun i => [(8, .int .i64 (L zbh i))], fun i => [], [0, 1, 6, 7], [],
     fun i => L2 L none l i, fun i => L2 L (fun (l : List α) (i : Nat) => l.length - i) l i⟩
 | _ => Option.none
theorem zw1 (a b : Int) : ile a b = decide (a <= b) := by simp [ile]
def zia (x : Ls) : Bool := decide (8 < x.rs.length)
def zk7 (x : Cl) : Bool := decide (8 < x.es.length)
def zz7 (x : Ep) : Bool := decide (x.w < 0)
def zzp (x : Cl) : Bool := x.es.any zz7
def zxs (x : Ls) : Prop := True
def zxt (x : Cl) : Prop := True
def zxu (x : Ep) : Prop := True
def ztb (x : Cl) : Prop := zee x.es
theorem ylr : zbp Tryz.prog (prS 75 zky zkx zia zxs std) := by
 intro xs p r h hp
 dsimp only [prS] at h |-
 split at h <;> cases h
 try simp only [L2, L3, std] at hp |-
 rename_i x
 refine zss zd3 hp.1 ?_
 have hp := hp.2
 show za5 _ _ _ (.bool (zia (rdG lsV x)))
 have hp : zxs (rdG lsV x) := hp
 generalize rdG lsV x = y at hp |-
 refine za4 (T := tt) (S := noS) (lo := fun _ => noA std) (lb := noA) 5 (fn := Tryz.f75) (xs := fun L => [.agg [.str (L Ls.n y), .int .u8 (L Pl.a (L Ls.pl y)), .int .u8 (L Pl.b (L Ls.pl y)), .int .u8 (L Pl.c (L Ls.pl y)), .int .u8 (L Pl.d (L Ls.pl y)), .int .u16 (L Pl.p (L Ls.pl y)), znj L (L Ls.rs y)]]) rfl rfl (by kernel_rfl) (by kernel_rfl) rfl zad (zbl _) (by kernel_rfl) ?_
 intro L P' Q' hL hP hQ
 (cbv; try simp only [syT, true_and, and_true])
 (subst hL; subst hQ; simp only [L2, L3, std] at *; try simp only [syS, reduceCtorEq, Int.reduceToNat, Int.reduceAdd, Int.reduceSub] at *)
 show ilt 8 ((y.rs.length : Nat) : Int) = _
 simp only [ilt, zia]
 congr 1
 simp
 omega
theorem yls : zbp Tryz.prog (prS 77 zgx zgu zk7 zxt std) := by
 intro xs p r h hp
 dsimp only [prS] at h |-
 split at h <;> cases h
 try simp only [L2, L3, std] at hp |-
 rename_i x
 refine zss zc4 hp.1 ?_
 have hp := hp.2
 show za5 _ _ _ (.bool (zk7 (rdG clV x)))
 have hp : zxt (rdG clV x) := hp
 generalize rdG clV x = y at hp |-
 refine za4 (T := tt) (S := noS) (lo := fun _ => noA std) (lb := noA) 5 (fn := Tryz.f77) (xs := fun L => [.agg [.str (L Cl.n y), zk9 L (L Cl.es y)]]) rfl rfl (by kernel_rfl) (by kernel_rfl) rfl zad (zbl _) (by kernel_rfl) ?_
 intro L P' Q' hL hP hQ
 (cbv; try simp only [syT, true_and, and_true])
 (subst hL; subst hQ; simp only [L2, L3, std] at *; try simp only [syS, reduceCtorEq, Int.reduceToNat, Int.reduceAdd, Int.reduceSub] at *)
 show ilt 8 ((y.es.length : Nat) : Int) = _
 simp only [ilt, zk7]
 congr 1
 simp
 omega
theorem yo0 : zbp Tryz.prog (prS 80 zph zp9 zz7 zxu std) := by
 intro xs p r h hp
 dsimp only [prS] at h |-
 split at h <;> cases h
 try simp only [L2, L3, std] at hp |-
 rename_i x
 refine zss zen hp.1 ?_
 have hp := hp.2
 show za5 _ _ _ (.bool (zz7 (rdG epV x)))
 have hp : zxu (rdG epV x) := hp
 generalize rdG epV x = y at hp |-
 refine za4 (T := tt) (S := noS) (lo := fun _ => noA std) (lb := noA) 5 (fn := Tryz.f80) (xs := fun L => [.agg [.int .u8 (L Pl.a (L Ep.pl y)), .int .u8 (L Pl.b (L Ep.pl y)), .int .u8 (L Pl.c (L Ep.pl y)), .int .u8 (L Pl.d (L Ep.pl y)), .int .u16 (L Pl.p (L Ep.pl y)), .int .i64 (L Ep.w y)]]) rfl rfl (by kernel_rfl) (by kernel_rfl) rfl zad (zbl _) (by kernel_rfl) ?_
 intro L P' Q' hL hP hQ
 (cbv; try simp only [syT, true_and, and_true])
 (subst hL; subst hQ; simp only [L2, L3, std] at *; try simp only [syS, reduceCtorEq, Int.reduceToNat, Int.reduceAdd, Int.reduceSub] at *)
 simp [ilt, zz7]
def yr6 (l : List Ls) : Int := zfi zia l
def yif (l : List Ls) : Bool := l.any zia
def yqf (l : List Ls) (i : Nat) : Prop := zm3 zia l i
def zo0 (l : List Ls) : Prop := zwp zxs l
theorem zyf (ih : zbp Tryz.prog (prS 75 zky zkx zia zxs std)) : zbp Tryz.prog (zzm 115 75 zpf zp7 yr6 zo0 std) := by
 intro xs p r h hp
 unfold zzm at h
 simp only at h
 split at h
 rotate_left
 · cases h
 rename_i x k
 cases hk : za8 k 75 with
 | false => rw [hk] at h; cases h
 | true =>
 rw [hk] at h
 obtain rfl : k = 75 := of_decide_eq_true hk
 cases h
 obtain ⟨ho, hz, ha⟩ := hp
 refine zhx zd3 ho ?_
 have hz : zee (rdW lsV x) := hz
 have ha : zo0 (rdW lsV x) := ha
 show za5 _ _ _ (.int .i64 (zfi zia (rdW lsV x)))
 generalize rdW lsV x = l at hz ha |-
 refine za4 (T := tt) (S := fun L => zb7 [prS 75 zky zkx zia zxs L]) (lo := fun L => ixA L yqf l) (lb := noA) 5 (fn := Tryz.f115) (xs := fun L => [zek L l, .fn 75 [] []]) rfl rfl (by kernel_rfl) (by kernel_rfl) rfl zad
   (za7 ⟨ih, trivial⟩) (by kernel_rfl) ?_
 intro L P' Q' hL hP hQ
 (cbv; try simp only [syT, true_and, and_true])
 refine ⟨⟨0, ?_⟩, fun i hi => ?_⟩
 · (cbv; try simp only [syT, true_and, and_true])
   (subst hL; subst hQ; simp only [L2, L3, std] at *; try simp only [syS, reduceCtorEq, Int.reduceToNat, Int.reduceAdd, Int.reduceSub] at *)
   exact zk6 _ _
 · cbv at hi
   have hG : ∀ y : Ls, L zkx (.agg [.str (L Ls.n y), .int .u8 (L Pl.a (L Ls.pl y)), .int .u8 (L Pl.b (L Ls.pl y)), .int .u8 (L Pl.c (L Ls.pl y)), .int .u8 (L Pl.d (L Ls.pl y)), .int .u16 (L Pl.p (L Ls.pl y)), .lst 4 (L zab (L Ls.rs y)) (fun i => rtC L (L (L zbq (L Ls.rs y)) i))]) = y := by subst hL; exact fun y => (gK zd3 y _ rfl).2
   have hO : ∀ y : Ls, L zky (.agg [.str (L Ls.n y), .int .u8 (L Pl.a (L Ls.pl y)), .int .u8 (L Pl.b (L Ls.pl y)), .int .u8 (L Pl.c (L Ls.pl y)), .int .u8 (L Pl.d (L Ls.pl y)), .int .u16 (L Pl.p (L Ls.pl y)), .lst 4 (L zab (L Ls.rs y)) (fun i => rtC L (L (L zbq (L Ls.rs y)) i))]) := by subst hL; exact fun y => (gK zd3 y _ rfl).1
   (cbv; try simp only [syT, true_and, and_true])
   simp only [hG, hO, true_and]
   have hw : zab l = l.length := rfl
   have hz : l.length <= 1000000 := hz
   refine ⟨fun hlt => ⟨?_, ?_, fun hb => ?_, fun hb => ⟨i + 1, ?_⟩⟩, fun hge => ?_⟩
   · (subst hL; subst hQ; simp only [L2, L3, std] at *; try simp only [syS, reduceCtorEq, Int.reduceToNat, Int.reduceAdd, Int.reduceSub] at *)
     omega
   · (subst hL; subst hQ; simp only [L2, L3, std] at *; try simp only [syS, reduceCtorEq, Int.reduceToNat, Int.reduceAdd, Int.reduceSub] at *)
     exact ha _ (by rw [za6, zat (V := lsV) (by omega)]; exact List.getElem_mem _)
   · (subst hL; subst hQ; simp only [L2, L3, std] at *; try simp only [syS, reduceCtorEq, Int.reduceToNat, Int.reduceAdd, Int.reduceSub] at *)
     exact (zfd (V := lsV) hi (by omega) hb).symm
   · (cbv; try simp only [syT, true_and, and_true])
     try simp only [hG]
     (subst hL; subst hQ; simp only [L2, L3, std] at *; try simp only [syS, reduceCtorEq, Int.reduceToNat, Int.reduceAdd, Int.reduceSub] at *)
     exact ⟨by omega, zec (V := lsV) hi (by omega) hb, by omega⟩
   · (subst hL; subst hQ; simp only [L2, L3, std] at *; try simp only [syS, reduceCtorEq, Int.reduceToNat, Int.reduceAdd, Int.reduceSub] at *)
     exact (zfe hi (by omega)).symm
theorem zzd (ih : zbp Tryz.prog (prS 75 zky zkx zia zxs std)) : zbp Tryz.prog (zzq 74 75 zpf zp7 yif zo0 std) := by
 intro xs p r h hp
 unfold zzq at h
 simp only at h
 split at h
 rotate_left
 · cases h
 rename_i x k
 cases hk : za8 k 75 with
 | false => rw [hk] at h; cases h
 | true =>
 rw [hk] at h
 obtain rfl : k = 75 := of_decide_eq_true hk
 cases h
 obtain ⟨ho, hz, ha⟩ := hp
 refine zhx zd3 ho ?_
 have hz : zee (rdW lsV x) := hz
 have ha : zo0 (rdW lsV x) := ha
 show za5 _ _ _ (.bool (yif (rdW lsV x)))
 generalize rdW lsV x = l at hz ha |-
 refine za4 (T := tt) (S := fun L => zb7 [zzm 115 75 zpf zp7 yr6 zo0 L]) (lo := fun _ => noA std) (lb := noA) 5 (fn := Tryz.f74) (xs := fun L => [zek L l, .fn 75 [] []]) rfl rfl (by kernel_rfl) (by kernel_rfl) rfl zad
   (za7 ⟨zyf ih, trivial⟩) (by kernel_rfl) ?_
 intro L P' Q' hL hP hQ
 (cbv; try simp only [syT, true_and, and_true])
 (subst hL; subst hQ; simp only [L2, L3, std] at *; try simp only [syS, reduceCtorEq, Int.reduceToNat, Int.reduceAdd, Int.reduceSub] at *)
 simp only [yfo]
 refine ⟨⟨ybw _, hz, ha⟩, ?_⟩
 have := zj7 zia l
 rw [zw1, show yif l = l.any zia from rfl, <- this]; rfl
def yr7 (l : List Cl) : Int := zfi zk7 l
def yig (l : List Cl) : Bool := l.any zk7
def yqg (l : List Cl) (i : Nat) : Prop := zm3 zk7 l i
def zo1 (l : List Cl) : Prop := zwp zxt l
theorem zyg (ih : zbp Tryz.prog (prS 77 zgx zgu zk7 zxt std)) : zbp Tryz.prog (zzm 116 77 zk4 zk1 yr7 zo1 std) := by
 intro xs p r h hp
 unfold zzm at h
 simp only at h
 split at h
 rotate_left
 · cases h
 rename_i x k
 cases hk : za8 k 77 with
 | false => rw [hk] at h; cases h
 | true =>
 rw [hk] at h
 obtain rfl : k = 77 := of_decide_eq_true hk
 cases h
 obtain ⟨ho, hz, ha⟩ := hp
 refine zhx zc4 ho ?_
 have hz : zee (rdW clV x) := hz
 have ha : zo1 (rdW clV x) := ha
 show za5 _ _ _ (.int .i64 (zfi zk7 (rdW clV x)))
 generalize rdW clV x = l at hz ha |-
 refine za4 (T := tt) (S := fun L => zb7 [prS 77 zgx zgu zk7 zxt L]) (lo := fun L => ixA L yqg l) (lb := noA) 5 (fn := Tryz.f116) (xs := fun L => [ze0 L l, .fn 77 [] []]) rfl rfl (by kernel_rfl) (by kernel_rfl) rfl zad
   (za7 ⟨ih, trivial⟩) (by kernel_rfl) ?_
 intro L P' Q' hL hP hQ
 (cbv; try simp only [syT, true_and, and_true])
 refine ⟨⟨0, ?_⟩, fun i hi => ?_⟩
 · (cbv; try simp only [syT, true_and, and_true])
   (subst hL; subst hQ; simp only [L2, L3, std] at *; try simp only [syS, reduceCtorEq, Int.reduceToNat, Int.reduceAdd, Int.reduceSub] at *)
   exact zk6 _ _
 · cbv at hi
   have hG : ∀ y : Cl, L zgu (.agg [.str (L Cl.n y), .lst 6 (L zab (L Cl.es y)) (fun i => epC L (L (L zc9 (L Cl.es y)) i))]) = y := by subst hL; exact fun y => (gK zc4 y _ rfl).2
   have hO : ∀ y : Cl, L zgx (.agg [.str (L Cl.n y), .lst 6 (L zab (L Cl.es y)) (fun i => epC L (L (L zc9 (L Cl.es y)) i))]) := by subst hL; exact fun y => (gK zc4 y _ rfl).1
   (cbv; try simp only [syT, true_and, and_true])
   simp only [hG, hO, true_and]
   have hw : zab l = l.length := rfl
   have hz : l.length <= 1000000 := hz
   refine ⟨fun hlt => ⟨?_, ?_, fun hb => ?_, fun hb => ⟨i + 1, ?_⟩⟩, fun hge => ?_⟩
   · (subst hL; subst hQ; simp only [L2, L3, std] at *; try simp only [syS, reduceCtorEq, Int.reduceToNat, Int.reduceAdd, Int.reduceSub] at *)
     omega
   · (subst hL; subst hQ; simp only [L2, L3, std] at *; try simp only [syS, reduceCtorEq, Int.reduceToNat, Int.reduceAdd, Int.reduceSub] at *)
     exact ha _ (by rw [zac, zat (V := clV) (by omega)]; exact List.getElem_mem _)
   · (subst hL; subst hQ; simp only [L2, L3, std] at *; try simp only [syS, reduceCtorEq, Int.reduceToNat, Int.reduceAdd, Int.reduceSub] at *)
     exact (zfd (V := clV) hi (by omega) hb).symm
   · (cbv; try simp only [syT, true_and, and_true])
     try simp only [hG]
     (subst hL; subst hQ; simp only [L2, L3, std] at *; try simp only [syS, reduceCtorEq, Int.reduceToNat, Int.reduceAdd, Int.reduceSub] at *)
     exact ⟨by omega, zec (V := clV) hi (by omega) hb, by omega⟩
   · (subst hL; subst hQ; simp only [L2, L3, std] at *; try simp only [syS, reduceCtorEq, Int.reduceToNat, Int.reduceAdd, Int.reduceSub] at *)
     exact (zfe hi (by omega)).symm
theorem zze (ih : zbp Tryz.prog (prS 77 zgx zgu zk7 zxt std)) : zbp Tryz.prog (zzq 76 77 zk4 zk1 yig zo1 std) := by
 intro xs p r h hp
 unfold zzq at h
 simp only at h
 split at h
 rotate_left
 · cases h
 rename_i x k
 cases hk : za8 k 77 with
 | false => rw [hk] at h; cases h
 | true =>
 rw [hk] at h
 obtain rfl : k = 77 := of_decide_eq_true hk
 cases h
 obtain ⟨ho, hz, ha⟩ := hp
 refine zhx zc4 ho ?_
 have hz : zee (rdW clV x) := hz
 have ha : zo1 (rdW clV x) := ha
 show za5 _ _ _ (.bool (yig (rdW clV x)))
 generalize rdW clV x = l at hz ha |-
 refine za4 (T := tt) (S := fun L => zb7 [zzm 116 77 zk4 zk1 yr7 zo1 L]) (lo := fun _ => noA std) (lb := noA) 5 (fn := Tryz.f76) (xs := fun L => [ze0 L l, .fn 77 [] []]) rfl rfl (by kernel_rfl) (by kernel_rfl) rfl zad
   (za7 ⟨zyg ih, trivial⟩) (by kernel_rfl) ?_
 intro L P' Q' hL hP hQ
 (cbv; try simp only [syT, true_and, and_true])
 (subst hL; subst hQ; simp only [L2, L3, std] at *; try simp only [syS, reduceCtorEq, Int.reduceToNat, Int.reduceAdd, Int.reduceSub] at *)
 simp only [zxp]
 refine ⟨⟨zti _, hz, ha⟩, ?_⟩
 have := zj7 zk7 l
 rw [zw1, show yig l = l.any zk7 from rfl, <- this]; rfl
def yr8 (l : List Ep) : Int := zfi zz7 l
def yih (l : List Ep) : Bool := l.any zz7
def yqh (l : List Ep) (i : Nat) : Prop := zm3 zz7 l i
def zo2 (l : List Ep) : Prop := zwp zxu l
theorem zyh (ih : zbp Tryz.prog (prS 80 zph zp9 zz7 zxu std)) : zbp Tryz.prog (zzm 117 80 zpg zp8 yr8 zo2 std) := by
 intro xs p r h hp
 unfold zzm at h
 simp only at h
 split at h
 rotate_left
 · cases h
 rename_i x k
 cases hk : za8 k 80 with
 | false => rw [hk] at h; cases h
 | true =>
 rw [hk] at h
 obtain rfl : k = 80 := of_decide_eq_true hk
 cases h
 obtain ⟨ho, hz, ha⟩ := hp
 refine zhx zen ho ?_
 have hz : zee (rdW epV x) := hz
 have ha : zo2 (rdW epV x) := ha
 show za5 _ _ _ (.int .i64 (zfi zz7 (rdW epV x)))
 generalize rdW epV x = l at hz ha |-
 refine za4 (T := tt) (S := fun L => zb7 [prS 80 zph zp9 zz7 zxu L]) (lo := fun L => ixA L yqh l) (lb := noA) 5 (fn := Tryz.f117) (xs := fun L => [zk9 L l, .fn 80 [] []]) rfl rfl (by kernel_rfl) (by kernel_rfl) rfl zad
   (za7 ⟨ih, trivial⟩) (by kernel_rfl) ?_
 intro L P' Q' hL hP hQ
 (cbv; try simp only [syT, true_and, and_true])
 refine ⟨⟨0, ?_⟩, fun i hi => ?_⟩
 · (cbv; try simp only [syT, true_and, and_true])
   (subst hL; subst hQ; simp only [L2, L3, std] at *; try simp only [syS, reduceCtorEq, Int.reduceToNat, Int.reduceAdd, Int.reduceSub] at *)
   exact zk6 _ _
 · cbv at hi
   have hG : ∀ y : Ep, L zp9 (.agg [.int .u8 (L Pl.a (L Ep.pl y)), .int .u8 (L Pl.b (L Ep.pl y)), .int .u8 (L Pl.c (L Ep.pl y)), .int .u8 (L Pl.d (L Ep.pl y)), .int .u16 (L Pl.p (L Ep.pl y)), .int .i64 (L Ep.w y)]) = y := by subst hL; exact fun y => (gK zen y _ rfl).2
   have hO : ∀ y : Ep, L zph (.agg [.int .u8 (L Pl.a (L Ep.pl y)), .int .u8 (L Pl.b (L Ep.pl y)), .int .u8 (L Pl.c (L Ep.pl y)), .int .u8 (L Pl.d (L Ep.pl y)), .int .u16 (L Pl.p (L Ep.pl y)), .int .i64 (L Ep.w y)]) := by subst hL; exact fun y => (gK zen y _ rfl).1
   (cbv; try simp only [syT, true_and, and_true])
   simp only [hG, hO, true_and]
   have hw : zab l = l.length := rfl
   have hz : l.length <= 1000000 := hz
   refine ⟨fun hlt => ⟨?_, ?_, fun hb => ?_, fun hb => ⟨i + 1, ?_⟩⟩, fun hge => ?_⟩
   · (subst hL; subst hQ; simp only [L2, L3, std] at *; try simp only [syS, reduceCtorEq, Int.reduceToNat, Int.reduceAdd, Int.reduceSub] at *)
     omega
   · (subst hL; subst hQ; simp only [L2, L3, std] at *; try simp only [syS, reduceCtorEq, Int.reduceToNat, Int.reduceAdd, Int.reduceSub] at *)
     exact ha _ (by rw [zc9, zat (V := epV) (by omega)]; exact List.getElem_mem _)
   · (subst hL; subst hQ; simp only [L2, L3, std] at *; try simp only [syS, reduceCtorEq, Int.reduceToNat, Int.reduceAdd, Int.reduceSub] at *)
     exact (zfd (V := epV) hi (by omega) hb).symm
   · (cbv; try simp only [syT, true_and, and_true])
     try simp only [hG]
     (subst hL; subst hQ; simp only [L2, L3, std] at *; try simp only [syS, reduceCtorEq, Int.reduceToNat, Int.reduceAdd, Int.reduceSub] at *)
     exact ⟨by omega, zec (V := epV) hi (by omega) hb, by omega⟩
   · (subst hL; subst hQ; simp only [L2, L3, std] at *; try simp only [syS, reduceCtorEq, Int.reduceToNat, Int.reduceAdd, Int.reduceSub] at *)
     exact (zfe hi (by omega)).symm
theorem zzf (ih : zbp Tryz.prog (prS 80 zph zp9 zz7 zxu std)) : zbp Tryz.prog (zzq 79 80 zpg zp8 yih zo2 std) := by
 intro xs p r h hp
 unfold zzq at h
 simp only at h
 split at h
 rotate_left
 · cases h
 rename_i x k
 cases hk : za8 k 80 with
 | false => rw [hk] at h; cases h
 | true =>
 rw [hk] at h
 obtain rfl : k = 80 := of_decide_eq_true hk
 cases h
 obtain ⟨ho, hz, ha⟩ := hp
 refine zhx zen ho ?_
 have hz : zee (rdW epV x) := hz
 have ha : zo2 (rdW epV x) := ha
 show za5 _ _ _ (.bool (yih (rdW epV x)))
 generalize rdW epV x = l at hz ha |-
 refine za4 (T := tt) (S := fun L => zb7 [zzm 117 80 zpg zp8 yr8 zo2 L]) (lo := fun _ => noA std) (lb := noA) 5 (fn := Tryz.f79) (xs := fun L => [zk9 L l, .fn 80 [] []]) rfl rfl (by kernel_rfl) (by kernel_rfl) rfl zad
   (za7 ⟨zyh ih, trivial⟩) (by kernel_rfl) ?_
 intro L P' Q' hL hP hQ
 (cbv; try simp only [syT, true_and, and_true])
 (subst hL; subst hQ; simp only [L2, L3, std] at *; try simp only [syS, reduceCtorEq, Int.reduceToNat, Int.reduceAdd, Int.reduceSub] at *)
 simp only [yfp]
 refine ⟨⟨ybx _, hz, ha⟩, ?_⟩
 have := zj7 zz7 l
 rw [zw1, show yih l = l.any zz7 from rfl, <- this]; rfl
theorem yo1 : zbp Tryz.prog (prS 78 zgx zgu zzp ztb std) := by
 intro xs p r h hp
 dsimp only [prS] at h |-
 split at h <;> cases h
 try simp only [L2, L3, std] at hp |-
 rename_i x
 refine zss zc4 hp.1 ?_
 have hp := hp.2
 show za5 _ _ _ (.bool (zzp (rdG clV x)))
 have hp : ztb (rdG clV x) := hp
 generalize rdG clV x = y at hp |-
 refine za4 (T := tt) (S := fun L => zb7 [zzq 79 80 zpg zp8 yih zo2 L]) (lo := fun _ => noA std) (lb := noA) 5 (fn := Tryz.f78) (xs := fun L => [.agg [.str (L Cl.n y), zk9 L (L Cl.es y)]]) rfl rfl (by kernel_rfl) (by kernel_rfl) rfl zad (za7 ⟨zzf yo0, trivial⟩) (by kernel_rfl) ?_
 intro L P' Q' hL hP hQ
 (cbv; try simp only [syT, true_and, and_true])
 (subst hL; subst hQ; simp only [L2, L3, std] at *; try simp only [syS, reduceCtorEq, Int.reduceToNat, Int.reduceAdd, Int.reduceSub] at *)
 simp only [yfp]
 exact ⟨⟨ybx _, hp, fun _ _ => trivial⟩, rfl⟩
def yr9 (l : List Cl) : Int := zfi zzp l
def yii (l : List Cl) : Bool := l.any zzp
def yqi (l : List Cl) (i : Nat) : Prop := zm3 zzp l i
def zo3 (l : List Cl) : Prop := zwp ztb l
theorem zyi (ih : zbp Tryz.prog (prS 78 zgx zgu zzp ztb std)) : zbp Tryz.prog (zzm 116 78 zk4 zk1 yr9 zo3 std) := by
 intro xs p r h hp
 unfold zzm at h
 simp only at h
 split at h
 rotate_left
 · cases h
 rename_i x k
 cases hk : za8 k 78 with
 | false => rw [hk] at h; cases h
 | true =>
 rw [hk] at h
 obtain rfl : k = 78 := of_decide_eq_true hk
 cases h
 obtain ⟨ho, hz, ha⟩ := hp
 refine zhx zc4 ho ?_
 have hz : zee (rdW clV x) := hz
 have ha : zo3 (rdW clV x) := ha
 show za5 _ _ _ (.int .i64 (zfi zzp (rdW clV x)))
 generalize rdW clV x = l at hz ha |-
 refine za4 (T := tt) (S := fun L => zb7 [prS 78 zgx zgu zzp ztb L]) (lo := fun L => ixA L yqi l) (lb := noA) 5 (fn := Tryz.f116) (xs := fun L => [ze0 L l, .fn 78 [] []]) rfl rfl (by kernel_rfl) (by kernel_rfl) rfl zad
   (za7 ⟨ih, trivial⟩) (by kernel_rfl) ?_
 intro L P' Q' hL hP hQ
 (cbv; try simp only [syT, true_and, and_true])
 refine ⟨⟨0, ?_⟩, fun i hi => ?_⟩
 · (cbv; try simp only [syT, true_and, and_true])
   (subst hL; subst hQ; simp only [L2, L3, std] at *; try simp only [syS, reduceCtorEq, Int.reduceToNat, Int.reduceAdd, Int.reduceSub] at *)
   exact zk6 _ _
 · cbv at hi
   have hG : ∀ y : Cl, L zgu (.agg [.str (L Cl.n y), .lst 6 (L zab (L Cl.es y)) (fun i => epC L (L (L zc9 (L Cl.es y)) i))]) = y := by subst hL; exact fun y => (gK zc4 y _ rfl).2
   have hO : ∀ y : Cl, L zgx (.agg [.str (L Cl.n y), .lst 6 (L zab (L Cl.es y)) (fun i => epC L (L (L zc9 (L Cl.es y)) i))]) := by subst hL; exact fun y => (gK zc4 y _ rfl).1
   (cbv; try simp only [syT, true_and, and_true])
   simp only [hG, hO, true_and]
   have hw : zab l = l.length := rfl
   have hz : l.length <= 1000000 := hz
   refine ⟨fun hlt => ⟨?_, ?_, fun hb => ?_, fun hb => ⟨i + 1, ?_⟩⟩, fun hge => ?_⟩
   · (subst hL; subst hQ; simp only [L2, L3, std] at *; try simp only [syS, reduceCtorEq, Int.reduceToNat, Int.reduceAdd, Int.reduceSub] at *)
     omega
   · (subst hL; subst hQ; simp only [L2, L3, std] at *; try simp only [syS, reduceCtorEq, Int.reduceToNat, Int.reduceAdd, Int.reduceSub] at *)
     exact ha _ (by rw [zac, zat (V := clV) (by omega)]; exact List.getElem_mem _)
   · (subst hL; subst hQ; simp only [L2, L3, std] at *; try simp only [syS, reduceCtorEq, Int.reduceToNat, Int.reduceAdd, Int.reduceSub] at *)
     exact (zfd (V := clV) hi (by omega) hb).symm
   · (cbv; try simp only [syT, true_and, and_true])
     try simp only [hG]
     (subst hL; subst hQ; simp only [L2, L3, std] at *; try simp only [syS, reduceCtorEq, Int.reduceToNat, Int.reduceAdd, Int.reduceSub] at *)
     exact ⟨by omega, zec (V := clV) hi (by omega) hb, by omega⟩
   · (subst hL; subst hQ; simp only [L2, L3, std] at *; try simp only [syS, reduceCtorEq, Int.reduceToNat, Int.reduceAdd, Int.reduceSub] at *)
     exact (zfe hi (by omega)).symm
theorem zzg (ih : zbp Tryz.prog (prS 78 zgx zgu zzp ztb std)) : zbp Tryz.prog (zzq 76 78 zk4 zk1 yii zo3 std) := by
 intro xs p r h hp
 unfold zzq at h
 simp only at h
 split at h
 rotate_left
 · cases h
 rename_i x k
 cases hk : za8 k 78 with
 | false => rw [hk] at h; cases h
 | true =>
 rw [hk] at h
 obtain rfl : k = 78 := of_decide_eq_true hk
 cases h
 obtain ⟨ho, hz, ha⟩ := hp
 refine zhx zc4 ho ?_
 have hz : zee (rdW clV x) := hz
 have ha : zo3 (rdW clV x) := ha
 show za5 _ _ _ (.bool (yii (rdW clV x)))
 generalize rdW clV x = l at hz ha |-
 refine za4 (T := tt) (S := fun L => zb7 [zzm 116 78 zk4 zk1 yr9 zo3 L]) (lo := fun _ => noA std) (lb := noA) 5 (fn := Tryz.f76) (xs := fun L => [ze0 L l, .fn 78 [] []]) rfl rfl (by kernel_rfl) (by kernel_rfl) rfl zad
   (za7 ⟨zyi ih, trivial⟩) (by kernel_rfl) ?_
 intro L P' Q' hL hP hQ
 (cbv; try simp only [syT, true_and, and_true])
 (subst hL; subst hQ; simp only [L2, L3, std] at *; try simp only [syS, reduceCtorEq, Int.reduceToNat, Int.reduceAdd, Int.reduceSub] at *)
 simp only [zxp]
 refine ⟨⟨zti _, hz, ha⟩, ?_⟩
 have := zj7 zzp l
 rw [zw1, show yii l = l.any zzp from rfl, <- this]; rfl
structure zuu (v : CV) (a b : Nat) : Prop where
 wf : wfV v
 sz : sizeC v <= a
 tx : (zc8 v).length <= b
theorem zuu.up {v : CV} {a b a' b' : Nat} (h : zuu v a b) (ha : a <= a') (hb : b <= b') : zuu v a' b' := ⟨h.wf, by have := h.sz; omega, by have := h.tx; omega⟩
theorem zu5 {n : Int} (h : zd6 n) : zuu (zg1 n) 1 11 := by
 refine ⟨?_, ?_, ?_⟩
 · rw [zg1, wfV, zuw]; exact ⟨h, by decide, trivial⟩
 · rw [zg1, zcv, zd1]; omega
 · rw [zg1, zao, if_pos rfl, List.length_append]
   have := zju h
   have e : (zh9 1).length = 1 := rfl
   omega
theorem zif {s : List UInt8} {m : Nat} (h : s.length <= m) (hm : m <= 1000000) : zuu (zhd s) 1 (11 + m) := by
 refine ⟨?_, ?_, ?_⟩
 · rw [zhd, wfV, zuw]; exact ⟨⟨by decide, by decide⟩, by omega, trivial⟩
 · rw [zhd, zcv, zd1]; omega
 · rw [zhd, zao, if_neg (by decide), if_pos rfl, List.length_append, List.length_append]
   have := zju (n := (s.length : Int)) ⟨by omega, by omega⟩
   have e : (zh9 2).length = 1 := rfl
   omega
theorem yjt {a b : Nat} : ∀ {l : List CV}, (∀ v ∈ l, zuu v a b) -> zuw l /\ sizeCs l <= l.length * a /\ (zb0 l).length <= l.length * b
 | [], _ => by rw [zuw, zd1, zb0]; exact ⟨trivial, by simp, by simp⟩
 | v :: l, h => by
   obtain ⟨i1, i2, i3⟩ := yjt (l := l) fun w hw => h w (by simp [hw])
   have hv := h v (by simp)
   have h2 := hv.sz
   have h3 := hv.tx
   rw [zuw, zby, zb0, List.length_append, List.length_cons, Nat.succ_mul, Nat.succ_mul]
   exact ⟨⟨hv.wf, i1⟩, by omega, by omega⟩
theorem zkg {l : List CV} {a b : Nat} (m : Nat) (h : ∀ v ∈ l, zuu v a b) (hl : l.length <= m) (hm : m <= 1000) : zuu (zdw l) (m * a + 1) (11 + m * b) := by
 obtain ⟨i1, i2, i3⟩ := yjt h
 have e1 := Nat.mul_le_mul_right a hl
 have e2 := Nat.mul_le_mul_right b hl
 refine ⟨?_, ?_, ?_⟩
 · rw [zdw, wfV]; exact ⟨⟨by decide, by decide⟩, by decide, i1⟩
 · rw [zdw, zcv]; omega
 · rw [zdw, zao, if_neg (by decide), if_neg (by decide), List.length_append, List.length_append]
   have := zju (n := (l.length : Int)) ⟨by omega, by omega⟩
   have e : (zh9 3).length = 1 := rfl
   omega
def zh2 (x : Rt) : Bool := decide (x.h.length <= 300) && decide (x.p.length <= 300) && decide (x.c.length <= 300)
def zdf (x : Ls) : Bool := decide (x.n.length <= 300) && decide (x.rs.length <= 12) && x.rs.all zh2
def ze4 (x : Cl) : Bool := decide (x.n.length <= 300) && decide (x.es.length <= 12)
def zcj (x : Cf) : Bool := decide (x.ls.length <= 12) && decide (x.cs.length <= 12) && x.ls.all zdf && x.cs.all ze4
def yt4 (x : Rt) : Prop := zd6 x.i
def yob (x : Ep) : Prop := zqd x.pl /\ -9223372036854775808 <= x.w /\ x.w <= 9223372036854775807
def zwu (x : Ls) : Prop := zqd x.pl /\ ∀ r ∈ x.rs, yt4 r
def yoc (x : Cl) : Prop := ∀ e ∈ x.es, yob e
def yer (x : Cf) : Prop := zd6 x.v /\ (∀ l ∈ x.ls, zwu l) /\ ∀ c ∈ x.cs, yoc c
def zl0 (x : Cf) : CV := zdw [zg1 x.v, zvs x.ls, zwg x.cs]
theorem ybq (x : Pl) : (plB x).length = 6 := rfl
theorem yre {x : Rt} (hl : zh2 x = true) (hw : yt4 x) : zuu (zfx x) 5 1255 := by
 simp only [zh2, Bool.and_eq_true, decide_eq_true_eq] at hl
 refine zkg (a := 1) (b := 311) 4 (fun v hv => ?_) (Nat.le_of_ble_eq_true rfl) (by decide)
 simp only [List.mem_cons, List.not_mem_nil, or_false] at hv
 rcases hv with rfl | rfl | rfl | rfl
 · exact zif hl.1.1 (by omega)
 · exact zif hl.1.2 (by omega)
 · exact zif hl.2 (by omega)
 · exact (zu5 hw).up (by omega) (by omega)
theorem zla {α : Type} {val : α -> CV} {l : List α} {a b : Nat} (m : Nat) (h : ∀ x ∈ l, zuu (val x) a b) (hl : l.length <= m) (hm : m <= 1000) : zuu (zmp val l) (m * a + 1) (11 + m * b) :=
 zkg m (fun v hv => by obtain ⟨x, hx, rfl⟩ := List.mem_map.1 hv; exact h x hx) (by simpa using hl) hm
theorem yrf {x : Ep} (hw : yob x) : zuu (zg7 x) 3 45 := by
 refine zkg (a := 1) (b := 17) 2 (fun v hv => ?_) (Nat.le_of_ble_eq_true rfl) (by decide)
 simp only [List.mem_cons, List.not_mem_nil, or_false] at hv
 rcases hv with rfl | rfl
 · exact zif (m := 6) (Nat.le_of_eq (ybq _)) (by omega)
 · exact (zu5 ⟨by omega, by omega⟩).up (by omega) (by omega)
theorem ymo {x : Ls} (hl : zdf x = true) (hw : zwu x) : zuu (zgl x) 184 45224 := by
 simp only [zdf, Bool.and_eq_true, decide_eq_true_eq, List.all_eq_true] at hl
 refine zkg (a := 61) (b := 15071) 3 (fun v hv => ?_) (Nat.le_of_ble_eq_true rfl) (by decide)
 simp only [List.mem_cons, List.not_mem_nil, or_false] at hv
 rcases hv with rfl | rfl | rfl
 · exact (zif hl.1.1 (by omega)).up (by omega) (by omega)
 · exact (zif (m := 6) (Nat.le_of_eq (ybq _)) (by omega)).up (by omega) (by omega)
 · exact (zla (a := 5) (b := 1255) 12 (fun r hr => yre (hl.2 r hr) (hw.2 r hr)) hl.1.2 (by omega)).up (by omega) (by omega)
theorem yrg {x : Cl} (hl : ze4 x = true) (hw : yoc x) : zuu (zgo x) 75 1113 := by
 simp only [ze4, Bool.and_eq_true, decide_eq_true_eq] at hl
 refine zkg (a := 37) (b := 551) 2 (fun v hv => ?_) (Nat.le_of_ble_eq_true rfl) (by decide)
 simp only [List.mem_cons, List.not_mem_nil, or_false] at hv
 rcases hv with rfl | rfl
 · exact (zif hl.1 (by omega)).up (by omega) (by omega)
 · exact (zla (a := 3) (b := 45) 12 (fun e he => yrf (hw e he)) hl.2 (by omega)).up (by omega) (by omega)
theorem yju {x : Cf} (hl : zcj x = true) (hw : yer x) : zuu (zl0 x) 7000 2000000 := by
 simp only [zcj, Bool.and_eq_true, decide_eq_true_eq, List.all_eq_true] at hl
 refine (zkg (a := 2209) (b := 542699) 3 (fun v hv => ?_) (Nat.le_of_ble_eq_true rfl) (by decide)).up (by decide) (by decide)
 simp only [List.mem_cons, List.not_mem_nil, or_false] at hv
 rcases hv with rfl | rfl | rfl
 · exact (zu5 hw.1).up (by omega) (by omega)
 · exact (zla (a := 184) (b := 45224) 12 (fun r hr => ymo (hl.1.2 r hr) (hw.2.1 r hr)) hl.1.1.1 (by omega)).up (by omega) (by omega)
 · exact (zla (a := 75) (b := 1113) 12 (fun r hr => yrg (hl.2 r hr) (hw.2.2 r hr)) hl.1.1.2 (by omega)).up (by omega) (by omega)
theorem ztj {a b : Int} (h : zg1 a = zg1 b) : a = b := by simpa [zg1] using h
theorem zi3 {a b : List UInt8} (h : zhd a = zhd b) : a = b := by simpa [zhd] using h
theorem zjw {a b : List CV} (h : zdw a = zdw b) : a = b := by simpa [zdw] using h
theorem zld {α : Type} {val : α -> CV} {p : α -> Prop} (hv : ∀ x y, p x -> p y -> val x = val y -> x = y) : ∀ {l m : List α}, (∀ x ∈ l, p x) -> (∀ x ∈ m, p x) -> zmp val l = zmp val m -> l = m := by
 intro l m hl hm h
 have h := zjw h
 induction l generalizing m with
 | nil => cases m with
   | nil => rfl
   | cons y m => simp at h
 | cons x l ih => cases m with
   | nil => simp at h
   | cons y m =>
     simp only [List.map_cons, List.cons.injEq] at h
     rw [hv x y (hl x (by simp)) (hm y (by simp)) h.1, ih (fun z hz => hl z (by simp [hz])) (fun z hz => hm z (by simp [hz])) (congrArg zdw h.2) h.2]
theorem zjn {a b : Int} (ha : 0 <= a /\ a <= 255) (hb : 0 <= b /\ b <= 255) (h : ub a = ub b) : a = b := by
 rw [<- yir ha.1 ha.2, <- yir hb.1 hb.2, h]
theorem zv9 {x y : Pl} (hx : zqd x) (hy : zqd y) (h : plB x = plB y) : x = y := by
 obtain ⟨a, b, c, d, p⟩ := x
 obtain ⟨a', b', c', d', p'⟩ := y
 obtain ⟨h1, h2, h3, h4, h5, h6⟩ := hx
 obtain ⟨k1, k2, k3, k4, k5, k6⟩ := hy
 simp only at h1 h2 h3 h4 h5 h6 k1 k2 k3 k4 k5 k6
 simp only [plB, List.cons.injEq, and_true] at h
 obtain ⟨e1, e2, e3, e4, e5, e6⟩ := h
 have e5 := zjn (by omega) (by omega) e5
 have e6 := zjn (by omega) (by omega) e6
 rw [Pl.mk.injEq]
 exact ⟨zjn h1 k1 e1, zjn h2 k2 e2, zjn h3 k3 e3, zjn h4 k4 e4, by omega⟩
theorem ypk {x y : Rt} (h : zfx x = zfx y) : x = y := by
 have h := zjw h
 simp only [List.cons.injEq, and_true] at h
 obtain ⟨h1, h2, h3, h4⟩ := h
 cases x; cases y
 rw [Rt.mk.injEq]
 exact ⟨zi3 h1, zi3 h2, zi3 h3, ztj h4⟩
theorem yqp (x y : Ls) (hx : zwu x) (hy : zwu y) (h : zgl x = zgl y) : x = y := by
 have h := zjw h
 simp only [List.cons.injEq, and_true] at h
 obtain ⟨h1, h2, h3⟩ := h
 have h2 := zv9 hx.1 hy.1 (zi3 h2)
 have h3 := zld (p := fun _ => True) (fun x y _ _ h => ypk h) (fun _ _ => trivial) (fun _ _ => trivial) h3
 cases x; cases y
 rw [Ls.mk.injEq]
 exact ⟨zi3 h1, h2, h3⟩
def ztp (x : Cf) : Bool := decide (8 < x.ls.length \/ 8 < x.cs.length) || x.ls.any zia || x.cs.any zk7
def ysw (x : Cf) : Bool := x.cs.any zzp
def cfE (x : Cf) : Int := if ztp x = true then 6 else if ysw x = true then 7 else zt9 (zl0 x)
def cfT (x : Cf) : List UInt8 := if cfE x = 0 then zxq (zl0 x) else []
theorem lit3 (a b c : CV) : rdL (.lst 4 3 fun i j => zbb .dead [.int .i64 a.kd, .int .u64 a.nn, .str a.tx, .lst 4 (zn9 a) (zlg a), .int .i64 b.kd, .int .u64 b.nn, .str b.tx, .lst 4 (zn9 b) (zlg b), .int .i64 c.kd, .int .u64 c.nn, .str c.tx, .lst 4 (zn9 c) (zlg c)] (i * 4 + j)) = [a, b, c] := (zmv [a, b, c] (n := 3) rfl rfl).1
theorem ylv (a b c : CV) : okL (.lst 4 3 fun i j => zbb .dead [.int .i64 a.kd, .int .u64 a.nn, .str a.tx, .lst 4 (zn9 a) (zlg a), .int .i64 b.kd, .int .u64 b.nn, .str b.tx, .lst 4 (zn9 b) (zlg b), .int .i64 c.kd, .int .u64 c.nn, .str c.tx, .lst 4 (zn9 c) (zlg c)] (i * 4 + j)) := (zmv [a, b, c] (n := 3) rfl rfl).2
def yqu (n : Nat) (x : Cf) : Prop := x.ls.length <= n /\ x.cs.length <= n
def ylc (x : Cf) : Prop := yqu 1000000 x
def yle (x : Cf) : Prop := zee x.cs /\ ∀ c ∈ x.cs, ztb c
theorem zy6 : zbp Tryz.prog (prS 49 zdy zaf ztp ylc std) := by
 intro xs p r h hp
 dsimp only [prS] at h |-
 split at h <;> cases h
 try simp only [L2, L3, std] at hp |-
 rename_i x
 refine zss zdv hp.1 ?_
 have hp := hp.2
 show za5 _ _ _ (.bool (ztp (rdG cfV x)))
 have hp : ylc (rdG cfV x) := hp
 generalize rdG cfV x = y at hp |-
 refine za4 (T := tt) (S := fun L => zb7 [zzq 74 75 zpf zp7 yif zo0 L, zzq 76 77 zk4 zk1 yig zo1 L]) (lo := fun _ => noA std) (lb := noA) 5 (fn := Tryz.f49) (xs := fun L => [.agg [.int .u64 (L Cf.v y), zek L (L Cf.ls y), ze0 L (L Cf.cs y)]]) rfl rfl (by kernel_rfl) (by kernel_rfl) rfl zad (za7 ⟨zzd ylr, zze yls, trivial⟩) (by kernel_rfl) ?_
 intro L P' Q' hL hP hQ
 (cbv; try simp only [syT, true_and, and_true])
 (subst hL; subst hQ; simp only [L2, L3, std] at *; try simp only [syS, reduceCtorEq, Int.reduceToNat, Int.reduceAdd, Int.reduceSub] at *)
 simp only [yfo, zxp]
 have e1 : zab y.ls = y.ls.length := rfl
 have e2 : zab y.cs = y.cs.length := rfl
 refine ⟨fun h => ?_, fun h => ⟨⟨ybw _, hp.1, fun _ _ => trivial⟩, fun h2 => ?_, fun h2 => ⟨⟨zti _, hp.2, fun _ _ => trivial⟩, ?_⟩⟩⟩
 · unfold ztp; rw [decide_eq_true (by omega)]; rfl
 · unfold ztp; rw [show y.ls.any zia = true from h2]; simp
 · unfold ztp; rw [show y.ls.any zia = false from h2, decide_eq_false (by omega)]; simp; rfl
theorem yee : zbp Tryz.prog (prS 50 zdy zaf ysw yle std) := by
 intro xs p r h hp
 dsimp only [prS] at h |-
 split at h <;> cases h
 try simp only [L2, L3, std] at hp |-
 rename_i x
 refine zss zdv hp.1 ?_
 have hp := hp.2
 show za5 _ _ _ (.bool (ysw (rdG cfV x)))
 have hp : yle (rdG cfV x) := hp
 generalize rdG cfV x = y at hp |-
 refine za4 (T := tt) (S := fun L => zb7 [zzq 76 78 zk4 zk1 yii zo3 L]) (lo := fun _ => noA std) (lb := noA) 5 (fn := Tryz.f50) (xs := fun L => [.agg [.int .u64 (L Cf.v y), zek L (L Cf.ls y), ze0 L (L Cf.cs y)]]) rfl rfl (by kernel_rfl) (by kernel_rfl) rfl zad (za7 ⟨zzg yo1, trivial⟩) (by kernel_rfl) ?_
 intro L P' Q' hL hP hQ
 (cbv; try simp only [syT, true_and, and_true])
 (subst hL; subst hQ; simp only [L2, L3, std] at *; try simp only [syS, reduceCtorEq, Int.reduceToNat, Int.reduceAdd, Int.reduceSub] at *)
 simp only [zxp]
 exact ⟨⟨zti _, hp.1, hp.2⟩, rfl⟩
def yec (x : Cf) : Prop := zcj x = true /\ yer x
def ynw (L : za9) : zdq := (18, fun xs => match xs with
 | [x] => some (L zdy x /\ L yec (L zaf x), .tup [.str (L cfT (L zaf x)), .int .i64 (L cfE (L zaf x))])
 | _ => none)
theorem yic : zbp Tryz.prog (ynw std) := by
 intro xs p r h hp
 dsimp only [ynw] at h |-
 split at h <;> cases h
 try simp only [L2, L3, std] at hp |-
 rename_i x
 refine zss zdv hp.1 ?_
 have hp := hp.2
 show za5 _ _ _ (.tup [.str (cfT (rdG cfV x)), .int .i64 (cfE (rdG cfV x))])
 have hp : yec (rdG cfV x) := hp
 generalize rdG cfV x = y at hp |-
 refine za4 (T := tt) (S := fun L => zb7 [prS 49 zdy zaf ztp ylc L, prS 50 zdy zaf ysw yle L, zxx L, zgg L, zwf 7000 L, zkz 54 55 zpf zp7 yjj zvs L, zkz 56 57 zk4 zk1 yk3 zwg L]) (lo := fun _ => noA std) (lb := noA) 5 (fn := Tryz.f18) (xs := fun L => [.agg [.int .u64 (L Cf.v y), zek L (L Cf.ls y), ze0 L (L Cf.cs y)]]) rfl rfl (by kernel_rfl) (by kernel_rfl) rfl zad (za7 ⟨zy6, yee, zl6, zct, zok 7000, zu9 zpq, zub zs5, trivial⟩) (by kernel_rfl) ?_
 intro L P' Q' hL hP hQ
 have hG : L zaf (.agg [.int .u64 (L Cf.v y), .lst 7 (L zab (L Cf.ls y)) (fun i => lsC L (L (L za6 (L Cf.ls y)) i)), .lst 2 (L zab (L Cf.cs y)) (fun i => clC L (L (L zac (L Cf.cs y)) i))]) = y := by subst hL; exact (gK zdv y _ rfl).2
 have hO : L zdy (.agg [.int .u64 (L Cf.v y), .lst 7 (L zab (L Cf.ls y)) (fun i => lsC L (L (L za6 (L Cf.ls y)) i)), .lst 2 (L zab (L Cf.cs y)) (fun i => clC L (L (L zac (L Cf.cs y)) i))]) := by subst hL; exact (gK zdv y _ rfl).1
 (cbv; try simp only [syT, true_and, and_true])
 simp only [hG, hO, true_and]
 (subst hL; subst hQ; simp only [L2, L3, std] at *; try simp only [syS, reduceCtorEq, Int.reduceToNat, Int.reduceAdd, Int.reduceSub] at *)
 simp only [yfo, zxp]
 simp only [lit3, zcb, zci]
 obtain ⟨hl, hw⟩ := hp
 have hf := yju hl hw
 have hl' := hl
 simp only [zcj, Bool.and_eq_true, decide_eq_true_eq, List.all_eq_true, zdf, ze4] at hl'
 obtain ⟨⟨⟨l1, l2⟩, l3⟩, l4⟩ := hl'
 have sz1 : ∀ {α : Type} {l : List α} (n : Nat), n <= 12 -> l.length <= n -> zee l := fun n hn hl => by show _ <= 1000000; omega
 refine ⟨⟨by omega, by omega⟩, fun h => ?_, fun h => ⟨⟨sz1 12 (by omega) l2, fun c hc => sz1 12 (by omega) (l4 c hc).2⟩, fun h2 => ?_, fun h2 => ⟨⟨ybw _, sz1 12 (by omega) l1, fun x hx => ⟨(hw.2.1 x hx).1, sz1 12 (by omega) (l3 x hx).1.2⟩⟩, ⟨zti _, sz1 12 (by omega) l2, fun c hc => ⟨sz1 12 (by omega) (l4 c hc).2, fun e he => (hw.2.2 c hc e he).1⟩⟩, ⟨ylv _ _ _, by show (3 : Nat) <= 1000000; omega⟩, ⟨(zk0 _).2, ⟨hf.sz, by omega⟩, hf.wf, ?_⟩, ?_⟩⟩⟩
 · have e : cfE y = 6 := by unfold cfE; rw [if_pos h]
   exact ⟨by rw [cfT, if_neg (by rw [e]; decide)], e.symm⟩
 · have e : cfE y = 7 := by unfold cfE; rw [if_neg (by rw [h]; decide), if_pos h2]
   exact ⟨by rw [cfT, if_neg (by rw [e]; decide)], e.symm⟩
 · have := hf.tx
   show (zc8 (zl0 y)).length <= 90000000
   omega
 · have e : cfE y = zt9 (zl0 y) := by unfold cfE; rw [if_neg (by rw [h]; decide), if_neg (by rw [h2]; decide)]
   refine ⟨?_, e.symm⟩
   show zxq (zl0 y) = cfT y
   unfold cfT
   rw [e]
   split
   · rfl
   · rename_i h3
     unfold zxq; rw [if_neg h3]
def zus {α : Type} (V : Vw α) (p : α -> Bool) (l : List α) (i : Nat) : Prop := i <= l.length /\ ∀ j, j < i -> p (zil V l j) = true
theorem zur {α : Type} (V : Vw α) (p : α -> Bool) (l : List α) : zus V p l 0 := ⟨Nat.zero_le _, fun j hj => by omega⟩
theorem zkk {α : Type} {V : Vw α} {p : α -> Bool} {l : List α} {i : Nat} (h : zus V p l i) (hi : i < l.length) (hp : p (zil V l i) = true) : zus V p l (i + 1) :=
 ⟨hi, fun j hj => by by_cases e : j = i; · rw [e]; exact hp
                     · exact h.2 j (by omega)⟩
theorem zhu {α : Type} {V : Vw α} {p : α -> Bool} {l : List α} {i : Nat} (hi : i < l.length) (hp : p (zil V l i) = false) : l.all p = false := by
 rw [List.all_eq_false]
 exact ⟨l[i], List.getElem_mem _, by rw [zat hi] at hp; rw [hp]; decide⟩
theorem zn3 {α : Type} {V : Vw α} {p : α -> Bool} {l : List α} {i : Nat} (h : zus V p l i) (hi : l.length <= i) : l.all p = true := by
 rw [List.all_eq_true]
 intro x hx
 obtain ⟨j, hj, rfl⟩ := List.getElem_of_mem hx
 have := h.2 j (by omega)
 rwa [zat hj] at this
def toLs (l : List Ls) (i : Nat) : Prop := zus lsV zdf l i
def toRt (l : List Rt) (i : Nat) : Prop := zus rtV zh2 l i
def toCl (l : List Cl) (i : Nat) : Prop := zus clV ze4 l i
def yp7 {α : Type} (l : List α) (i : Nat) : Nat := l.length - i
def ymh (l : List Ls) (i : Nat) : Nat := yp7 l i
def yrb (l : List Rt) (i : Nat) : Nat := yp7 l i
def ymi (l : List Cl) (i : Nat) : Nat := yp7 l i
def yqt (L : za9) (y : Cf) : Nat -> St -> Option Ann := fun id st => match id with
 | 0 => some ⟨Nat, fun i => [(20, .int .i64 (L zbh i))], fun i => [], [1, 18, 19], [1], fun i => L2 L toLs (L Cf.ls y) i, fun i => L2 L ymh (L Cf.ls y) i⟩
 | 2 => zi2 st 20 fun k => some ⟨Nat, fun j => [(37, .int .i64 (L zbh j))], fun j => [], [1, 18, 19, 20, 35, 36], [1], fun j => L2 L toRt (L Ls.rs (L2 L za6 (L Cf.ls y) (L Int.toNat k))) j, fun j => L2 L yrb (L Ls.rs (L2 L za6 (L Cf.ls y) (L Int.toNat k))) j⟩
 | 4 => some ⟨Nat, fun i => [(57, .int .i64 (L zbh i))], fun i => [], [55, 56], [], fun i => L2 L toCl (L Cf.cs y) i, fun i => L2 L ymi (L Cf.cs y) i⟩
 | _ => none
theorem zm9 {x : Cf} (h : x.ls.all zdf = false) : zcj x = false := by unfold zcj; rw [h]; simp
theorem zrc {x : Cf} (h : x.cs.all ze4 = false) : zcj x = false := by unfold zcj; rw [h]; simp
theorem ygs {x : Ls} (h : 300 < (x.n.length : Int)) : zdf x = false := by unfold zdf; rw [decide_eq_false (p := x.n.length <= 300) (by omega)]; simp
theorem ygr {x : Ls} (h : 12 < (x.rs.length : Int)) : zdf x = false := by unfold zdf; rw [decide_eq_false (p := x.rs.length <= 12) (by omega)]; simp
theorem ygt {x : Ls} (h : x.rs.all zh2 = false) : zdf x = false := by unfold zdf; rw [h]; simp
theorem ygq {x : Ls} (h1 : (x.n.length : Int) <= 300) (h2 : (x.rs.length : Int) <= 12) (h : x.rs.all zh2 = true) : zdf x = true := by unfold zdf; rw [h, decide_eq_true (p := x.n.length <= 300) (by omega), decide_eq_true (p := x.rs.length <= 12) (by omega)]; rfl
theorem ygw {x : Cl} (h : 300 < (x.n.length : Int)) : ze4 x = false := by unfold ze4; rw [decide_eq_false (p := x.n.length <= 300) (by omega)]; simp
theorem ygx {x : Cl} (h : 12 < (x.es.length : Int)) : ze4 x = false := by unfold ze4; rw [decide_eq_false (p := x.es.length <= 12) (by omega)]; simp
theorem ygv {x : Cl} (h1 : (x.n.length : Int) <= 300) (h2 : (x.es.length : Int) <= 12) : ze4 x = true := by unfold ze4; rw [decide_eq_true (p := x.n.length <= 300) (by omega), decide_eq_true (p := x.es.length <= 12) (by omega)]; rfl
theorem ygp {x : Rt} (h : 300 < (x.h.length : Int) \/ 300 < (x.p.length : Int) \/ 300 < (x.c.length : Int)) : zh2 x = false := by
 unfold zh2
 rcases h with h | h | h
 · rw [decide_eq_false (p := x.h.length <= 300) (by omega)]; simp
 · rw [decide_eq_false (p := x.p.length <= 300) (by omega)]; simp
 · rw [decide_eq_false (p := x.c.length <= 300) (by omega)]; simp
theorem ygo {x : Rt} (h1 : (x.h.length : Int) <= 300) (h2 : (x.p.length : Int) <= 300) (h3 : (x.c.length : Int) <= 300) : zh2 x = true := by
 unfold zh2; rw [decide_eq_true (p := x.h.length <= 300) (by omega), decide_eq_true (p := x.p.length <= 300) (by omega), decide_eq_true (p := x.c.length <= 300) (by omega)]; rfl
theorem ygu {x : Cf} (h1 : (x.ls.length : Int) <= 12) (h2 : (x.cs.length : Int) <= 12) (h3 : x.ls.all zdf = true) (h4 : x.cs.all ze4 = true) : zcj x = true := by
 unfold zcj; rw [h3, h4, decide_eq_true (p := x.ls.length <= 12) (by omega), decide_eq_true (p := x.cs.length <= 12) (by omega)]; rfl
def yld (x : Cf) : Prop := True
theorem zy9 : zbp Tryz.prog (prS 6 zdy zaf zcj yld std) := by
 intro xs p r h hp
 dsimp only [prS] at h |-
 split at h <;> cases h
 try simp only [L2, L3, std] at hp |-
 rename_i x
 refine zss zdv hp.1 ?_
 have hp := hp.2
 show za5 _ _ _ (.bool (zcj (rdG cfV x)))
 have hp : yld (rdG cfV x) := hp
 generalize rdG cfV x = y at hp |-
 refine za4 (T := tt) (S := noS) (lo := fun L => yqt L y) (lb := noA) 5 (fn := Tryz.f6) (xs := fun L => [.agg [.int .u64 (L Cf.v y), zek L (L Cf.ls y), ze0 L (L Cf.cs y)]]) rfl rfl (by kernel_rfl) (by kernel_rfl) rfl zad (zbl _) (by kernel_rfl) ?_
 intro L P' Q' hL hP hQ
 (cbv; try simp only [syT, true_and, and_true])
 refine ⟨fun h => ?_, fun h => ⟨⟨0, ?_⟩, fun i hi => ?_⟩⟩
 · (subst hL; subst hQ; simp only [L2, L3, std] at *; try simp only [syS, reduceCtorEq, Int.reduceToNat, Int.reduceAdd, Int.reduceSub] at *)
   simp only [zcj]
   have e1 : zab y.ls = y.ls.length := rfl
   have e2 : zab y.cs = y.cs.length := rfl
   by_cases h1 : y.ls.length <= 12
   · rw [decide_eq_false (p := y.cs.length <= 12) (by omega)]; simp
   · rw [decide_eq_false h1]; simp
 · (cbv; try simp only [syT, true_and, and_true])
   (subst hL; subst hQ; simp only [L2, L3, std] at *; try simp only [syS, reduceCtorEq, Int.reduceToNat, Int.reduceAdd, Int.reduceSub] at *)
   exact zur _ _ _
 · cbv at hi
   (cbv; try simp only [syT, true_and, and_true])
   have e1 : zab y.ls = y.ls.length := rfl
   have e2 : zab y.cs = y.cs.length := rfl
   refine ⟨fun hlt => ⟨?_, fun h1 => ?_, fun h1 => ⟨fun h2 => ?_, fun h2 => ⟨⟨0, ?_⟩, fun j hj => ?_⟩⟩⟩, fun hge => ⟨⟨0, ?_⟩, fun k hk => ?_⟩⟩
   · (subst hL; subst hQ; simp only [L2, L3, std] at *; try simp only [syS, reduceCtorEq, Int.reduceToNat, Int.reduceAdd, Int.reduceSub] at *)
     omega
   · (subst hL; subst hQ; simp only [L2, L3, std] at *; try simp only [syS, reduceCtorEq, Int.reduceToNat, Int.reduceAdd, Int.reduceSub] at *)
     exact (zm9 (zhu (V := lsV) (i := i) (by omega) (ygs h1))).symm
   · (subst hL; subst hQ; simp only [L2, L3, std] at *; try simp only [syS, reduceCtorEq, Int.reduceToNat, Int.reduceAdd, Int.reduceSub] at *)
     exact (zm9 (zhu (V := lsV) (i := i) (by omega) (ygr h2))).symm
   · (cbv; try simp only [syT, true_and, and_true])
     (subst hL; subst hQ; simp only [L2, L3, std] at *; try simp only [syS, reduceCtorEq, Int.reduceToNat, Int.reduceAdd, Int.reduceSub] at *)
     exact zur _ _ _
   · cbv at hj
     (cbv; try simp only [syT, true_and, and_true])
     have e3 : ∀ z : Ls, zab z.rs = z.rs.length := fun _ => rfl
     refine ⟨fun hlt2 => ⟨?_, fun h3 => ?_, fun h3 => ⟨j + 1, ?_⟩⟩, fun hge2 => ⟨i + 1, ?_⟩⟩
     · (subst hL; subst hQ; simp only [L2, L3, std] at *; try simp only [syS, reduceCtorEq, Int.reduceToNat, Int.reduceAdd, Int.reduceSub] at *)
       omega
     · (subst hL; subst hQ; simp only [L2, L3, std] at *; try simp only [syS, reduceCtorEq, Int.reduceToNat, Int.reduceAdd, Int.reduceSub] at *)
       have e4 := e3 (za6 y.ls i)
       exact (zm9 (zhu (V := lsV) (i := i) (by omega) (ygt (zhu (V := rtV) (i := j) (by show j < (za6 y.ls i).rs.length; omega) (ygp (by
         show 300 < ((zbq (za6 y.ls i).rs j).h.length : Int) \/ 300 < ((zbq (za6 y.ls i).rs j).p.length : Int) \/ 300 < ((zbq (za6 y.ls i).rs j).c.length : Int)
         omega)))))).symm
     · (cbv; try simp only [syT, true_and, and_true])
       (subst hL; subst hQ; simp only [L2, L3, std] at *; try simp only [syS, reduceCtorEq, Int.reduceToNat, Int.reduceAdd, Int.reduceSub] at *)
       have e4 := e3 (za6 y.ls i)
       refine ⟨by omega, zkk hj (by omega) (ygo ?_ ?_ ?_), ?_⟩
       · show ((zbq (za6 y.ls i).rs j).h.length : Int) <= 300
         omega
       · show ((zbq (za6 y.ls i).rs j).p.length : Int) <= 300
         omega
       · show ((zbq (za6 y.ls i).rs j).c.length : Int) <= 300
         omega
       · show (za6 y.ls i).rs.length - (j + 1) < (za6 y.ls i).rs.length - j
         omega
     · (cbv; try simp only [syT, true_and, and_true])
       (subst hL; subst hQ; simp only [L2, L3, std] at *; try simp only [syS, reduceCtorEq, Int.reduceToNat, Int.reduceAdd, Int.reduceSub] at *)
       have e4 := e3 (za6 y.ls i)
       refine ⟨by omega, zkk hi (by omega) (ygq h1 (by show ((za6 y.ls i).rs.length : Int) <= 12; omega) (zn3 hj (by show (za6 y.ls i).rs.length <= j; omega))), ?_⟩
       show y.ls.length - (i + 1) < y.ls.length - i
       omega
   · (cbv; try simp only [syT, true_and, and_true])
     (subst hL; subst hQ; simp only [L2, L3, std] at *; try simp only [syS, reduceCtorEq, Int.reduceToNat, Int.reduceAdd, Int.reduceSub] at *)
     exact zur _ _ _
   · cbv at hk
     (cbv; try simp only [syT, true_and, and_true])
     have e3 : ∀ z : Cl, zab z.es = z.es.length := fun _ => rfl
     refine ⟨fun hlt2 => ⟨?_, fun h3 => ?_, fun h3 => ⟨fun h4 => ?_, fun h4 => ⟨k + 1, ?_⟩⟩⟩, fun hge2 => ?_⟩
     · (subst hL; subst hQ; simp only [L2, L3, std] at *; try simp only [syS, reduceCtorEq, Int.reduceToNat, Int.reduceAdd, Int.reduceSub] at *)
       omega
     · (subst hL; subst hQ; simp only [L2, L3, std] at *; try simp only [syS, reduceCtorEq, Int.reduceToNat, Int.reduceAdd, Int.reduceSub] at *)
       exact (zrc (zhu (V := clV) (i := k) (by omega) (ygw h3))).symm
     · (subst hL; subst hQ; simp only [L2, L3, std] at *; try simp only [syS, reduceCtorEq, Int.reduceToNat, Int.reduceAdd, Int.reduceSub] at *)
       exact (zrc (zhu (V := clV) (i := k) (by omega) (ygx h4))).symm
     · (cbv; try simp only [syT, true_and, and_true])
       (subst hL; subst hQ; simp only [L2, L3, std] at *; try simp only [syS, reduceCtorEq, Int.reduceToNat, Int.reduceAdd, Int.reduceSub] at *)
       refine ⟨by omega, zkk hk (by omega) (ygv h3 h4), ?_⟩
       show y.cs.length - (k + 1) < y.cs.length - k
       omega
     · (subst hL; subst hQ; simp only [L2, L3, std] at *; try simp only [syS, reduceCtorEq, Int.reduceToNat, Int.reduceAdd, Int.reduceSub] at *)
       exact (ygu (by omega) (by omega) (zn3 hi (by omega)) (zn3 hk (by omega))).symm
def znk (x : Cf) : Prop := zee x.ls /\ zee x.cs /\ (∀ l ∈ x.ls, zee l.rs) /\ ∀ c ∈ x.cs, zee c.es
def leW {α : Type} (l : List α) (i : Nat) : Prop := i <= l.length
def yjk (l : List Ls) (i : Nat) : Prop := leW l i
def yqv (l : List Rt) (i : Nat) : Prop := leW l i
def yjl (l : List Cl) (i : Nat) : Prop := leW l i
def yqw (l : List Ep) (i : Nat) : Prop := leW l i
def yun (l : List Ep) (i : Nat) : Nat := yp7 l i
def yt8 (L : za9) : zdq := (12, fun xs => match xs with
 | [x] => some (L zdy x /\ L znk (L zaf x), .agg [.int .u64 (L Cf.v (L zaf x)), zek L (L Cf.ls (L zaf x)), ze0 L (L Cf.cs (L zaf x))])
 | _ => none)
def cfTo (L : za9) (y : Cf) : Nat -> St -> Option Ann := fun id st => match id with
 | 0 => some ⟨Nat, fun i => [(20, .int .i64 (L zbh i)), (3, .ref 3 0)], fun i => [(3, .box 49 [.int .u64 (L Cf.v y), .sl 901 7 0 i, .nils]), (901, .row 85 7 i (fun q => lsC L (L (L za6 (L Cf.ls y)) q)))], [1, 2, 18, 19], [1, 2], fun i => L2 L yjk (L Cf.ls y) i, fun i => L2 L ymh (L Cf.ls y) i⟩
 | 2 => zi2 st 20 fun k => some ⟨Nat, fun j => [(32, .int .i64 (L zbh j)), (6, .ref 6 0)],
     fun j => [(6, .box 85 [.str (L Ls.n (L2 L za6 (L Cf.ls y) (L Int.toNat k))), plC L (L Ls.pl (L2 L za6 (L Cf.ls y) (L Int.toNat k))) 0, plC L (L Ls.pl (L2 L za6 (L Cf.ls y) (L Int.toNat k))) 1, plC L (L Ls.pl (L2 L za6 (L Cf.ls y) (L Int.toNat k))) 2, plC L (L Ls.pl (L2 L za6 (L Cf.ls y) (L Int.toNat k))) 3, plC L (L Ls.pl (L2 L za6 (L Cf.ls y) (L Int.toNat k))) 4, .sl 902 4 0 j]),
       (902, .row 86 4 j (fun q => rtC L (L (L zbq (L Ls.rs (L2 L za6 (L Cf.ls y) (L Int.toNat k)))) q)))], [1, 2, 3, 18, 19, 20, 30, 31], [1, 2, 3, 901], fun j => L2 L yqv (L Ls.rs (L2 L za6 (L Cf.ls y) (L Int.toNat k))) j, fun j => L2 L yrb (L Ls.rs (L2 L za6 (L Cf.ls y) (L Int.toNat k))) j⟩
 | 4 => some ⟨Nat, fun i => [(53, .int .i64 (L zbh i)), (3, .ref 3 0)], fun i => [(3, .box 49 [.int .u64 (L Cf.v y), .sl 905 7 0 (L zab (L Cf.ls y)), .sl 903 2 0 i]), (905, .row 85 7 (L zab (L Cf.ls y)) (fun q => lsC L (L (L za6 (L Cf.ls y)) q))), (903, .row 89 2 i (fun q => clC L (L (L zac (L Cf.cs y)) q)))], [2, 51, 52], [2], fun i => L2 L yjl (L Cf.cs y) i, fun i => L2 L ymi (L Cf.cs y) i⟩
 | 6 => zi2 st 53 fun k => some ⟨Nat, fun j => [(63, .int .i64 (L zbh j)), (11, .ref 11 0)],
     fun j => [(11, .box 89 [.str (L Cl.n (L2 L zac (L Cf.cs y) (L Int.toNat k))), .sl 904 6 0 j]),
       (904, .row 91 6 j (fun q => epC L (L (L zc9 (L Cl.es (L2 L zac (L Cf.cs y) (L Int.toNat k)))) q)))], [2, 3, 51, 52, 53, 61, 62], [2, 3, 903, 905], fun j => L2 L yqw (L Cl.es (L2 L zac (L Cf.cs y) (L Int.toNat k))) j, fun j => L2 L yun (L Cl.es (L2 L zac (L Cf.cs y) (L Int.toNat k))) j⟩
 | _ => none
theorem zi4 {y : Cf} (hp : znk y) {i : Nat} (hi : i < y.ls.length) : (za6 y.ls i).rs.length <= 1000000 := hp.2.2.1 _ (by rw [za6, zat (V := lsV) hi]; exact List.getElem_mem _)
theorem zi5 {y : Cf} (hp : znk y) {i : Nat} (hi : i < y.cs.length) : (zac y.cs i).es.length <= 1000000 := hp.2.2.2 _ (by rw [zac, zat (V := clV) hi]; exact List.getElem_mem _)
theorem yke : zbp Tryz.prog (yt8 std) := by
 intro xs p r h hp
 dsimp only [yt8] at h |-
 split at h <;> cases h
 try simp only [L2, L3, std] at hp |-
 rename_i x
 obtain ⟨ho, hp⟩ := hp
 refine zss zdv ho ?_
 have hp : znk (zaf x) := hp
 show za5 _ _ [.agg [.int .u64 (zaf x).v, zek std (zaf x).ls, ze0 std (zaf x).cs]] _
 generalize zaf x = y at hp |-
 refine za4 (T := tt) (S := noS) (lo := fun L => cfTo L y) (lb := noA) 5 (fn := Tryz.f12) (xs := fun L => [.agg [.int .u64 (L Cf.v y), zek L (L Cf.ls y), ze0 L (L Cf.cs y)]]) rfl rfl (by kernel_rfl) (by kernel_rfl) rfl zad (zbl _) (by kernel_rfl) ?_
 intro L P' Q' hL hP hQ
 (cbv; try simp only [syT, true_and, and_true])
 refine ⟨⟨0, ?_⟩, fun i hi => ?_⟩
 · (cbv; try simp only [syT, true_and, and_true])
   (subst hL; subst hQ; simp only [L2, L3, std] at *; try simp only [syS, reduceCtorEq, Int.reduceToNat, Int.reduceAdd, Int.reduceSub] at *)
   exact Nat.zero_le _
 · cbv at hi
   (cbv; try simp only [syT, true_and, and_true])
   have e1 : zab y.ls = y.ls.length := rfl
   have e2 : zab y.cs = y.cs.length := rfl
   refine ⟨fun hlt => ⟨?_, ⟨⟨0, ?_⟩, fun j hj => ?_⟩⟩, fun hge => ⟨⟨0, ?_⟩, fun k hk => ?_⟩⟩
   · (subst hL; subst hQ; simp only [L2, L3, std] at *; try simp only [syS, reduceCtorEq, Int.reduceToNat, Int.reduceAdd, Int.reduceSub] at *)
     omega
   · (cbv; try simp only [syT, true_and, and_true])
     (subst hL; subst hQ; simp only [L2, L3, std] at *; try simp only [syS, reduceCtorEq, Int.reduceToNat, Int.reduceAdd, Int.reduceSub] at *)
     exact Nat.zero_le _
   · cbv at hj
     (cbv; try simp only [syT, true_and, and_true])
     have e3 : ∀ z : Ls, zab z.rs = z.rs.length := fun _ => rfl
     refine ⟨fun hlt2 => ⟨?_, ?_, ⟨j + 1, ?_⟩⟩, fun hge2 => ⟨?_, ⟨i + 1, ?_⟩⟩⟩
     · (subst hL; subst hQ; simp only [L2, L3, std] at *; try simp only [syS, reduceCtorEq, Int.reduceToNat, Int.reduceAdd, Int.reduceSub] at *)
       omega
     · (subst hL; subst hQ; simp only [L2, L3, std] at *; try simp only [syS, reduceCtorEq, Int.reduceToNat, Int.reduceAdd, Int.reduceSub] at *)
       have e4 := e3 (za6 y.ls i)
       have hm := zi4 hp (i := i) (by omega)
       omega
     · (cbv; try simp only [syT, true_and, and_true])
       (subst hL; subst hQ; simp only [L2, L3, std] at *; try simp only [syS, reduceCtorEq, Int.reduceToNat, Int.reduceAdd, Int.reduceSub] at *)
       have e4 := e3 (za6 y.ls i)
       have hm := zi4 hp (i := i) (by omega)
       refine ⟨fun a b ha hb => ?_, by omega, ?_, ?_⟩
       · by_cases h : a < j
         · rw [zih h]
           match b, hb with
           | 0, _ => rfl
           | 1, _ => rfl
           | 2, _ => rfl
           | 3, _ => rfl
         · obtain rfl : a = j := by omega
           rw [zki (by omega)]
           match b, hb with
           | 0, _ => rfl
           | 1, _ => rfl
           | 2, _ => rfl
           | 3, _ => rfl
       · show j + 1 <= (za6 y.ls i).rs.length
         omega
       · show (za6 y.ls i).rs.length - (j + 1) + 1 <= (za6 y.ls i).rs.length - j
         omega
     · (subst hL; subst hQ; simp only [L2, L3, std] at *; try simp only [syS, reduceCtorEq, Int.reduceToNat, Int.reduceAdd, Int.reduceSub] at *)
       have hm := hp.1
       unfold zee at hm
       omega
     · (cbv; try simp only [syT, true_and, and_true])
       (subst hL; subst hQ; simp only [L2, L3, std] at *; try simp only [syS, reduceCtorEq, Int.reduceToNat, Int.reduceAdd, Int.reduceSub] at *)
       have e4 := e3 (za6 y.ls i)
       have hj' : j <= (za6 y.ls i).rs.length := hj
       have hm := hp.1
       unfold zee at hm
       refine ⟨fun a b ha hb => ?_, by omega, ?_, ?_⟩
       · by_cases h : a < i
         · rw [zih h, show a - i = 0 by omega, Nat.zero_mul, Nat.zero_add]
           match b, hb with
           | 0, _ => rfl
           | 1, _ => rfl
           | 2, _ => rfl
           | 3, _ => rfl
           | 4, _ => rfl
           | 5, _ => rfl
           | 6, _ => rfl
         · obtain rfl : a = i := by omega
           rw [zki (by omega), Nat.sub_self, Nat.zero_mul, Nat.zero_add]
           match b, hb with
           | 0, _ => rfl
           | 1, _ => rfl
           | 2, _ => rfl
           | 3, _ => rfl
           | 4, _ => rfl
           | 5, _ => rfl
           | 6, _ =>
             show AV.lst 4 j _ = AV.lst 4 (zab (za6 y.ls a).rs) _
             rw [show j = zab (za6 y.ls a).rs by omega]
             rfl
       · show i + 1 <= y.ls.length
         omega
       · show y.ls.length - (i + 1) + 1 <= y.ls.length - i
         omega
   · (cbv; try simp only [syT, true_and, and_true])
     (subst hL; subst hQ; simp only [L2, L3, std] at *; try simp only [syS, reduceCtorEq, Int.reduceToNat, Int.reduceAdd, Int.reduceSub] at *)
     have hi' : i <= y.ls.length := hi
     exact ⟨by omega, by omega, Nat.zero_le _⟩
   · cbv at hk
     (cbv; try simp only [syT, true_and, and_true])
     have e3 : ∀ z : Cl, zab z.es = z.es.length := fun _ => rfl
     refine ⟨fun hlt => ⟨?_, ⟨⟨0, ?_⟩, fun j hj => ?_⟩⟩, fun hge => ?_⟩
     · (subst hL; subst hQ; simp only [L2, L3, std] at *; try simp only [syS, reduceCtorEq, Int.reduceToNat, Int.reduceAdd, Int.reduceSub] at *)
       omega
     · (cbv; try simp only [syT, true_and, and_true])
       (subst hL; subst hQ; simp only [L2, L3, std] at *; try simp only [syS, reduceCtorEq, Int.reduceToNat, Int.reduceAdd, Int.reduceSub] at *)
       exact Nat.zero_le _
     · cbv at hj
       (cbv; try simp only [syT, true_and, and_true])
       refine ⟨fun hlt2 => ⟨?_, ?_, ⟨j + 1, ?_⟩⟩, fun hge2 => ⟨?_, ⟨k + 1, ?_⟩⟩⟩
       · (subst hL; subst hQ; simp only [L2, L3, std] at *; try simp only [syS, reduceCtorEq, Int.reduceToNat, Int.reduceAdd, Int.reduceSub] at *)
         omega
       · (subst hL; subst hQ; simp only [L2, L3, std] at *; try simp only [syS, reduceCtorEq, Int.reduceToNat, Int.reduceAdd, Int.reduceSub] at *)
         have e4 := e3 (zac y.cs k)
         have hm := zi5 hp (i := k) (by omega)
         omega
       · (cbv; try simp only [syT, true_and, and_true])
         (subst hL; subst hQ; simp only [L2, L3, std] at *; try simp only [syS, reduceCtorEq, Int.reduceToNat, Int.reduceAdd, Int.reduceSub] at *)
         have e4 := e3 (zac y.cs k)
         have hm := zi5 hp (i := k) (by omega)
         refine ⟨fun a b ha hb => ?_, by omega, ?_, ?_⟩
         · by_cases h : a < j
           · rw [zih h, show a - j = 0 by omega, Nat.zero_mul, Nat.zero_add]
             match b, hb with
             | 0, _ => rfl
             | 1, _ => rfl
             | 2, _ => rfl
             | 3, _ => rfl
             | 4, _ => rfl
             | 5, _ => rfl
           · obtain rfl : a = j := by omega
             rw [zki (by omega), Nat.sub_self, Nat.zero_mul, Nat.zero_add]
             match b, hb with
             | 0, _ => rfl
             | 1, _ => rfl
             | 2, _ => rfl
             | 3, _ => rfl
             | 4, _ => rfl
             | 5, _ => rfl
         · show j + 1 <= (zac y.cs k).es.length
           omega
         · show (zac y.cs k).es.length - (j + 1) + 1 <= (zac y.cs k).es.length - j
           omega
       · (subst hL; subst hQ; simp only [L2, L3, std] at *; try simp only [syS, reduceCtorEq, Int.reduceToNat, Int.reduceAdd, Int.reduceSub] at *)
         have hm := hp.2.1
         unfold zee at hm
         omega
       · (cbv; try simp only [syT, true_and, and_true])
         (subst hL; subst hQ; simp only [L2, L3, std] at *; try simp only [syS, reduceCtorEq, Int.reduceToNat, Int.reduceAdd, Int.reduceSub] at *)
         have e4 := e3 (zac y.cs k)
         have hj' : j <= (zac y.cs k).es.length := hj
         have hm := hp.2.1
         unfold zee at hm
         refine ⟨fun a b ha hb => ?_, by omega, ?_, ?_⟩
         · by_cases h : a < k
           · rw [zih h, show a - k = 0 by omega, Nat.zero_mul, Nat.zero_add]
             match b, hb with
             | 0, _ => rfl
             | 1, _ => rfl
           · obtain rfl : a = k := by omega
             rw [zki (by omega), Nat.sub_self, Nat.zero_mul, Nat.zero_add]
             match b, hb with
             | 0, _ => rfl
             | 1, _ =>
               show AV.lst 6 j _ = AV.lst 6 (zab (zac y.cs a).es) _
               rw [show j = zab (zac y.cs a).es by omega]
               rfl
         · show k + 1 <= y.cs.length
           omega
         · show y.cs.length - (k + 1) + 1 <= y.cs.length - k
           omega
     · (subst hL; subst hQ; simp only [L2, L3, std] at *; try simp only [syS, reduceCtorEq, Int.reduceToNat, Int.reduceAdd, Int.reduceSub] at *)
       have hk' : k <= y.cs.length := hk
       obtain rfl : k = zab y.cs := by omega
       show fits1 (.agg [.lst 7 (zab y.ls) (fun i => lsC std (za6 y.ls i)), .lst 2 (zab y.cs) (fun i => clC std (zac y.cs i))]) _
       rw [zdm, zdm]
       exact ⟨⟨rfl, fun _ _ _ _ => rfl⟩, ⟨rfl, fun _ _ _ _ => rfl⟩, trivial⟩
def ybb (L : za9) : zdq := (60, fun xs => match xs with | [.str s] => some (True, .agg [.int .i64 2, .int .u64 0, .str s, .nils]) | _ => none)
theorem ybc : zbp Tryz.prog (ybb std) := by
 intro xs p r h hp
 dsimp only [ybb] at h |-
 split at h <;> cases h
 try simp only [L2, L3, std] at hp |-
 refine zaw (T := tt) (S := noS) (lo := noA) (lb := noA) 5 (fn := Tryz.f60) rfl rfl (by kernel_rfl) (by kernel_rfl) rfl zad (zbl _) (by kernel_rfl) ?_
 (intro L P1 Q1 hL hP hQ; cbv; subst hL; simp only [L2, L3, std, syT]; subst hQ)
 (simp only [syS, reduceCtorEq, Int.reduceToNat, Int.reduceAdd, Int.reduceSub])
 exact trivial
def ybd (L : za9) : zdq := (61, fun xs => match xs with | [.int .u64 n] => some (True, .agg [.int .i64 1, .int .u64 n, .str [], .nils]) | _ => none)
theorem ybe : zbp Tryz.prog (ybd std) := by
 intro xs p r h hp
 dsimp only [ybd] at h |-
 split at h <;> cases h
 try simp only [L2, L3, std] at hp |-
 refine zaw (T := tt) (S := noS) (lo := noA) (lb := noA) 5 (fn := Tryz.f61) rfl rfl (by kernel_rfl) (by kernel_rfl) rfl zad (zbl _) (by kernel_rfl) ?_
 (intro L P1 Q1 hL hP hQ; cbv; subst hL; simp only [L2, L3, std, syT]; subst hQ)
 (simp only [syS, reduceCtorEq, Int.reduceToNat, Int.reduceAdd, Int.reduceSub])
 exact trivial
def yof (L : za9) (y : Rt) : Nat -> AV
 | 0 => .int .i64 3
 | 1 => .int .u64 0
 | 2 => .str []
 | _ => .lst 4 4 (fun i j => zbb .dead [.int .i64 2, .int .u64 0, .str (L Rt.h y), .nils, .int .i64 2, .int .u64 0, .str (L Rt.p y), .nils, .int .i64 2, .int .u64 0, .str (L Rt.c y), .nils, .int .i64 1, .int .u64 (L Rt.i y), .str [], .nils] (i * 4 + j))
def yog (L : za9) (y : Ep) : Nat -> AV
 | 0 => .int .i64 3
 | 1 => .int .u64 0
 | 2 => .str []
 | _ => .lst 4 2 (fun i j => zbb .dead [.int .i64 2, .int .u64 0, .str (L plB (L Ep.pl y)), .nils, .int .i64 1, .int .u64 (L (fun w : Int => w % 18446744073709551616) (L Ep.w y)), .str [], .nils] (i * 4 + j))
def yl2 (L : za9) (y : Ls) : Nat -> AV
 | 0 => .int .i64 3
 | 1 => .int .u64 0
 | 2 => .str []
 | _ => .lst 4 3 (fun i j => zbb .dead [.int .i64 2, .int .u64 0, .str (L Ls.n y), .nils, .int .i64 2, .int .u64 0, .str (L plB (L Ls.pl y)), .nils, .int .i64 3, .int .u64 0, .str [], .lst 4 (L zab (L Ls.rs y)) (fun q => yof L (L (L zbq (L Ls.rs y)) q))] (i * 4 + j))
def yoh (L : za9) (y : Cl) : Nat -> AV
 | 0 => .int .i64 3
 | 1 => .int .u64 0
 | 2 => .str []
 | _ => .lst 4 2 (fun i j => zbb .dead [.int .i64 2, .int .u64 0, .str (L Cl.n y), .nils, .int .i64 3, .int .u64 0, .str [], .lst 4 (L zab (L Cl.es y)) (fun q => yog L (L (L zc9 (L Cl.es y)) q))] (i * 4 + j))
def ysj (L : za9) (y : Cf) : Nat -> Nat -> AV := fun i j => zbb .dead [.int .i64 1, .int .u64 (L Cf.v y), .str [], .nils, .int .i64 3, .int .u64 0, .str [], .lst 4 (L zab (L Cf.ls y)) (fun q => yl2 L (L (L za6 (L Cf.ls y)) q)),
 .int .i64 3, .int .u64 0, .str [], .lst 4 (L zab (L Cf.cs y)) (fun q => yoh L (L (L zac (L Cf.cs y)) q))] (i * 4 + j)
def ytx (x : Cf) : Prop := znk x /\ (∀ l ∈ x.ls, zqd l.pl) /\ ∀ c ∈ x.cs, ∀ e ∈ c.es, zqd e.pl
def yb8 (L : za9) : zdq := (32, fun xs => match xs with
 | [x] => some (L zdy x /\ L ytx (L zaf x), .agg [.int .i64 3, .int .u64 0, .str [], .lst 4 3 (ysj L (L zaf x))])
 | _ => none)
def rvA (L : za9) (y : Cf) : Nat -> St -> Option Ann := fun id st => match id with
 | 0 => some ⟨Nat, fun i => [(20, .int .i64 (L zbh i)), (3, .ref 3 0)], fun i => [(3, .box 80 [.int .i64 3, .int .u64 0, .str [], .sl 901 4 0 i]), (901, .row 80 4 i (fun q => yl2 L (L (L za6 (L Cf.ls y)) q)))], [1, 2, 4, 18, 19], [1, 2, 4], fun i => L2 L yjk (L Cf.ls y) i, fun i => L2 L ymh (L Cf.ls y) i⟩
 | 2 => zi2 st 20 fun k => some ⟨Nat, fun j => [(28, .int .i64 (L zbh j)), (7, .ref 7 0)],
     fun j => [(7, .box 80 [.int .i64 3, .int .u64 0, .str [], .sl 902 4 0 j]), (902, .row 80 4 j (fun q => yof L (L (L zbq (L Ls.rs (L2 L za6 (L Cf.ls y) (L Int.toNat k)))) q)))],
     [1, 2, 3, 4, 6, 18, 19, 20, 26, 27], [1, 2, 3, 4, 6, 901], fun j => L2 L yqv (L Ls.rs (L2 L za6 (L Cf.ls y) (L Int.toNat k))) j, fun j => L2 L yrb (L Ls.rs (L2 L za6 (L Cf.ls y) (L Int.toNat k))) j⟩
 | 4 => some ⟨Nat, fun i => [(71, .int .i64 (L zbh i)), (4, .ref 4 0), (3, .ref 3 0)], fun i => [(3, .box 80 [.int .i64 3, .int .u64 0, .str [], .sl 905 4 0 (L zab (L Cf.ls y))]), (905, .row 80 4 (L zab (L Cf.ls y)) (fun q => yl2 L (L (L za6 (L Cf.ls y)) q))),
     (4, .box 80 [.int .i64 3, .int .u64 0, .str [], .sl 903 4 0 i]), (903, .row 80 4 i (fun q => yoh L (L (L zac (L Cf.cs y)) q)))], [1, 2, 69, 70], [1, 2], fun i => L2 L yjl (L Cf.cs y) i, fun i => L2 L ymi (L Cf.cs y) i⟩
 | 6 => zi2 st 71 fun k => some ⟨Nat, fun j => [(79, .int .i64 (L zbh j)), (12, .ref 12 0)],
     fun j => [(12, .box 80 [.int .i64 3, .int .u64 0, .str [], .sl 904 4 0 j]), (904, .row 80 4 j (fun q => yog L (L (L zc9 (L Cl.es (L2 L zac (L Cf.cs y) (L Int.toNat k)))) q)))],
     [1, 2, 3, 4, 11, 69, 70, 71, 77, 78], [1, 2, 3, 4, 11, 903, 905], fun j => L2 L yqw (L Cl.es (L2 L zac (L Cf.cs y) (L Int.toNat k))) j, fun j => L2 L yun (L Cl.es (L2 L zac (L Cf.cs y) (L Int.toNat k))) j⟩
 | _ => none
theorem yb9 : zbp Tryz.prog (yb8 std) := by
 intro xs p r h hp
 dsimp only [yb8] at h |-
 split at h <;> cases h
 try simp only [L2, L3, std] at hp |-
 rename_i x
 obtain ⟨ho, hp⟩ := hp
 refine zss zdv ho ?_
 have hp : ytx (zaf x) := hp
 show za5 _ _ [.agg [.int .u64 (zaf x).v, zek std (zaf x).ls, ze0 std (zaf x).cs]] (.agg [.int .i64 3, .int .u64 0, .str [], .lst 4 3 (ysj std (zaf x))])
 generalize zaf x = y at hp |-
 refine za4 (T := tt) (S := fun L => zb7 [ybb L, ybd L, zpa L]) (lo := fun L => rvA L y) (lb := noA) 5 (fn := Tryz.f32) (xs := fun L => [.agg [.int .u64 (L Cf.v y), zek L (L Cf.ls y), ze0 L (L Cf.cs y)]]) rfl rfl (by kernel_rfl) (by kernel_rfl) rfl zad (za7 ⟨ybc, ybe, zt5, trivial⟩) (by kernel_rfl) ?_
 intro L P' Q' hL hP hQ
 (cbv; try simp only [syT, true_and, and_true])
 refine ⟨⟨0, ?_⟩, fun i hi => ?_⟩
 · (cbv; try simp only [syT, true_and, and_true])
   (subst hL; subst hQ; simp only [L2, L3, std] at *; try simp only [syS, reduceCtorEq, Int.reduceToNat, Int.reduceAdd, Int.reduceSub] at *)
   exact Nat.zero_le _
 · cbv at hi
   (cbv; try simp only [syT, true_and, and_true])
   have e1 : zab y.ls = y.ls.length := rfl
   have e2 : zab y.cs = y.cs.length := rfl
   refine ⟨fun hlt => ⟨?_, ⟨⟨0, ?_⟩, fun j hj => ?_⟩⟩, fun hge => ⟨⟨0, ?_⟩, fun k hk => ?_⟩⟩
   · (subst hL; subst hQ; simp only [L2, L3, std] at *; try simp only [syS, reduceCtorEq, Int.reduceToNat, Int.reduceAdd, Int.reduceSub] at *)
     omega
   · (cbv; try simp only [syT, true_and, and_true])
     (subst hL; subst hQ; simp only [L2, L3, std] at *; try simp only [syS, reduceCtorEq, Int.reduceToNat, Int.reduceAdd, Int.reduceSub] at *)
     exact Nat.zero_le _
   · cbv at hj
     (cbv; try simp only [syT, true_and, and_true])
     have e3 : ∀ z : Ls, zab z.rs = z.rs.length := fun _ => rfl
     refine ⟨fun hlt2 => ⟨?_, ?_, ⟨j + 1, ?_⟩⟩, fun hge2 => ⟨?_, ?_, ⟨i + 1, ?_⟩⟩⟩
     · (subst hL; subst hQ; simp only [L2, L3, std] at *; try simp only [syS, reduceCtorEq, Int.reduceToNat, Int.reduceAdd, Int.reduceSub] at *)
       omega
     · (subst hL; subst hQ; simp only [L2, L3, std] at *; try simp only [syS, reduceCtorEq, Int.reduceToNat, Int.reduceAdd, Int.reduceSub] at *)
       have e4 := e3 (za6 y.ls i)
       have hm := zi4 hp.1 (i := i) (by omega)
       omega
     · (cbv; try simp only [syT, true_and, and_true])
       (subst hL; subst hQ; simp only [L2, L3, std] at *; try simp only [syS, reduceCtorEq, Int.reduceToNat, Int.reduceAdd, Int.reduceSub] at *)
       have e4 := e3 (za6 y.ls i)
       have hm := zi4 hp.1 (i := i) (by omega)
       refine ⟨fun a b ha hb => ?_, by omega, ?_, ?_⟩
       · by_cases h : a < j
         · rw [zih h, show a - j = 0 by omega, Nat.zero_mul, Nat.zero_add]
           match b, hb with
           | 0, _ => rfl
           | 1, _ => rfl
           | 2, _ => rfl
           | 3, _ => rfl
         · obtain rfl : a = j := by omega
           rw [zki (by omega), Nat.sub_self, Nat.zero_mul, Nat.zero_add]
           match b, hb with
           | 0, _ => rfl
           | 1, _ => rfl
           | 2, _ => rfl
           | 3, _ => rfl
       · show j + 1 <= (za6 y.ls i).rs.length
         omega
       · show (za6 y.ls i).rs.length - (j + 1) + 1 <= (za6 y.ls i).rs.length - j
         omega
     · (subst hL; subst hQ; simp only [L2, L3, std] at *; try simp only [syS, reduceCtorEq, Int.reduceToNat, Int.reduceAdd, Int.reduceSub] at *)
       exact hp.2.1 _ (by rw [za6, zat (V := lsV) (by omega)]; exact List.getElem_mem _)
     · (subst hL; subst hQ; simp only [L2, L3, std] at *; try simp only [syS, reduceCtorEq, Int.reduceToNat, Int.reduceAdd, Int.reduceSub] at *)
       have hm := hp.1.1
       unfold zee at hm
       omega
     · (cbv; try simp only [syT, true_and, and_true])
       (subst hL; subst hQ; simp only [L2, L3, std] at *; try simp only [syS, reduceCtorEq, Int.reduceToNat, Int.reduceAdd, Int.reduceSub] at *)
       have e4 := e3 (za6 y.ls i)
       have hj' : j <= (za6 y.ls i).rs.length := hj
       have hm := hp.1.1
       unfold zee at hm
       refine ⟨fun a b ha hb => ?_, by omega, ?_, ?_⟩
       · by_cases h : a < i
         · rw [zih h, show a - i = 0 by omega, Nat.zero_mul, Nat.zero_add]
           match b, hb with
           | 0, _ => rfl
           | 1, _ => rfl
           | 2, _ => rfl
           | 3, _ => rfl
         · obtain rfl : a = i := by omega
           rw [zki (by omega), Nat.sub_self, Nat.zero_mul, Nat.zero_add]
           obtain rfl : j = zab (za6 y.ls a).rs := by omega
           match b, hb with
           | 0, _ => rfl
           | 1, _ => rfl
           | 2, _ => rfl
           | 3, _ => rfl
       · show i + 1 <= y.ls.length
         omega
       · show y.ls.length - (i + 1) + 1 <= y.ls.length - i
         omega
   · (cbv; try simp only [syT, true_and, and_true])
     (subst hL; subst hQ; simp only [L2, L3, std] at *; try simp only [syS, reduceCtorEq, Int.reduceToNat, Int.reduceAdd, Int.reduceSub] at *)
     have hi' : i <= y.ls.length := hi
     exact ⟨by omega, by omega, Nat.zero_le _⟩
   · cbv at hk
     (cbv; try simp only [syT, true_and, and_true])
     have e3 : ∀ z : Cl, zab z.es = z.es.length := fun _ => rfl
     refine ⟨fun hlt => ⟨?_, ⟨⟨0, ?_⟩, fun j hj => ?_⟩⟩, fun hge => ?_⟩
     · (subst hL; subst hQ; simp only [L2, L3, std] at *; try simp only [syS, reduceCtorEq, Int.reduceToNat, Int.reduceAdd, Int.reduceSub] at *)
       omega
     · (cbv; try simp only [syT, true_and, and_true])
       (subst hL; subst hQ; simp only [L2, L3, std] at *; try simp only [syS, reduceCtorEq, Int.reduceToNat, Int.reduceAdd, Int.reduceSub] at *)
       exact Nat.zero_le _
     · cbv at hj
       (cbv; try simp only [syT, true_and, and_true])
       refine ⟨fun hlt2 => ⟨?_, ?_, ?_, ⟨j + 1, ?_⟩⟩, fun hge2 => ⟨?_, ⟨k + 1, ?_⟩⟩⟩
       · (subst hL; subst hQ; simp only [L2, L3, std] at *; try simp only [syS, reduceCtorEq, Int.reduceToNat, Int.reduceAdd, Int.reduceSub] at *)
         omega
       · (subst hL; subst hQ; simp only [L2, L3, std] at *; try simp only [syS, reduceCtorEq, Int.reduceToNat, Int.reduceAdd, Int.reduceSub] at *)
         have e4 := e3 (zac y.cs k)
         exact hp.2.2 (zac y.cs k) (by rw [zac, zat (V := clV) (by omega)]; exact List.getElem_mem _) (zc9 (zac y.cs k).es j) (by rw [zc9, zat (V := epV) (by omega)]; exact List.getElem_mem _)
       · (subst hL; subst hQ; simp only [L2, L3, std] at *; try simp only [syS, reduceCtorEq, Int.reduceToNat, Int.reduceAdd, Int.reduceSub] at *)
         have e4 := e3 (zac y.cs k)
         have hm := zi5 hp.1 (i := k) (by omega)
         omega
       · (cbv; try simp only [syT, true_and, and_true])
         (subst hL; subst hQ; simp only [L2, L3, std] at *; try simp only [syS, reduceCtorEq, Int.reduceToNat, Int.reduceAdd, Int.reduceSub] at *)
         have e4 := e3 (zac y.cs k)
         have hm := zi5 hp.1 (i := k) (by omega)
         refine ⟨fun a b ha hb => ?_, by omega, ?_, ?_⟩
         · by_cases h : a < j
           · rw [zih h, show a - j = 0 by omega, Nat.zero_mul, Nat.zero_add]
             match b, hb with
             | 0, _ => rfl
             | 1, _ => rfl
             | 2, _ => rfl
             | 3, _ => rfl
           · obtain rfl : a = j := by omega
             rw [zki (by omega), Nat.sub_self, Nat.zero_mul, Nat.zero_add]
             match b, hb with
             | 0, _ => rfl
             | 1, _ => rfl
             | 2, _ => rfl
             | 3, _ => rfl
         · show j + 1 <= (zac y.cs k).es.length
           omega
         · show (zac y.cs k).es.length - (j + 1) + 1 <= (zac y.cs k).es.length - j
           omega
       · (subst hL; subst hQ; simp only [L2, L3, std] at *; try simp only [syS, reduceCtorEq, Int.reduceToNat, Int.reduceAdd, Int.reduceSub] at *)
         have hm := hp.1.2.1
         unfold zee at hm
         omega
       · (cbv; try simp only [syT, true_and, and_true])
         (subst hL; subst hQ; simp only [L2, L3, std] at *; try simp only [syS, reduceCtorEq, Int.reduceToNat, Int.reduceAdd, Int.reduceSub] at *)
         have e4 := e3 (zac y.cs k)
         have hj' : j <= (zac y.cs k).es.length := hj
         have hm := hp.1.2.1
         unfold zee at hm
         refine ⟨fun a b ha hb => ?_, by omega, ?_, ?_⟩
         · by_cases h : a < k
           · rw [zih h, show a - k = 0 by omega, Nat.zero_mul, Nat.zero_add]
             match b, hb with
             | 0, _ => rfl
             | 1, _ => rfl
             | 2, _ => rfl
             | 3, _ => rfl
           · obtain rfl : a = k := by omega
             rw [zki (by omega), Nat.sub_self, Nat.zero_mul, Nat.zero_add]
             obtain rfl : j = zab (zac y.cs a).es := by omega
             match b, hb with
             | 0, _ => rfl
             | 1, _ => rfl
             | 2, _ => rfl
             | 3, _ => rfl
         · show k + 1 <= y.cs.length
           omega
         · show y.cs.length - (k + 1) + 1 <= y.cs.length - k
           omega
     · (subst hL; subst hQ; simp only [L2, L3, std] at *; try simp only [syS, reduceCtorEq, Int.reduceToNat, Int.reduceAdd, Int.reduceSub] at *)
       have hk' : k <= y.cs.length := hk
       obtain rfl : k = zab y.cs := by omega
       exact fun _ _ _ _ => rfl
theorem zp6 {n : Nat} {get : Nat -> Nat -> AV} {l : List CV} (hn : n = l.length) (h : ∀ i, i < n -> get i 0 = .int .i64 (zd9 l i).kd /\ get i 1 = .int .u64 (zd9 l i).nn /\ get i 2 = .str (zd9 l i).tx /\ rdL (get i 3) = (zd9 l i).ls /\ okL (get i 3)) :
   rdL (.lst 4 n get) = l /\ okL (.lst 4 n get) := by
 refine ⟨zwe (by rw [ziu]; exact hn) fun i hi => ?_, rfl, fun i hi => ?_⟩
 · rw [ziu] at hi
   obtain ⟨a, b, c, d, _⟩ := h i hi
   rw [zr1 hi, a, b, c, d]
   exact CV.eta _
 · obtain ⟨a, b, c, d, e⟩ := h i hi
   exact ⟨⟨_, a⟩, ⟨_, b⟩, ⟨_, c⟩, e⟩
theorem ypt (y : Rt) : rdL (yof std y 3) = (zfx y).ls /\ okL (yof std y 3) := by
 refine zp6 (l := [zhd y.h, zhd y.p, zhd y.c, zg1 y.i]) rfl fun i hi => ?_
 match i, hi with
 | 0, _ => exact ⟨rfl, rfl, rfl, rfl, trivial⟩
 | 1, _ => exact ⟨rfl, rfl, rfl, rfl, trivial⟩
 | 2, _ => exact ⟨rfl, rfl, rfl, rfl, trivial⟩
 | 3, _ => exact ⟨rfl, rfl, rfl, rfl, trivial⟩
theorem ypw (y : Ep) : rdL (yog std y 3) = (zg7 y).ls /\ okL (yog std y 3) := by
 refine zp6 (l := [zhd (plB y.pl), zg1 (y.w % 18446744073709551616)]) rfl fun i hi => ?_
 match i, hi with
 | 0, _ => exact ⟨rfl, rfl, rfl, rfl, trivial⟩
 | 1, _ => exact ⟨rfl, rfl, rfl, rfl, trivial⟩
theorem yj6 (l : List Rt) : rdL (.lst 4 (zab l) (fun q => yof std (zbq l q))) = l.map zfx /\ okL (.lst 4 (zab l) (fun q => yof std (zbq l q))) := by
 refine zp6 (by simp [zab]) fun i hi => ?_
 rw [ziz (V := rtV) zfx (show i < l.length from hi)]
 exact ⟨rfl, rfl, rfl, (ypt _).1, (ypt _).2⟩
theorem yj8 (l : List Ep) : rdL (.lst 4 (zab l) (fun q => yog std (zc9 l q))) = l.map zg7 /\ okL (.lst 4 (zab l) (fun q => yog std (zc9 l q))) := by
 refine zp6 (by simp [zab]) fun i hi => ?_
 rw [ziz (V := epV) zg7 (show i < l.length from hi)]
 exact ⟨rfl, rfl, rfl, (ypw _).1, (ypw _).2⟩
theorem ypv (y : Ls) : rdL (yl2 std y 3) = (zgl y).ls /\ okL (yl2 std y 3) := by
 refine zp6 (l := [zhd y.n, zhd (plB y.pl), zqy y.rs]) rfl fun i hi => ?_
 match i, hi with
 | 0, _ => exact ⟨rfl, rfl, rfl, rfl, trivial⟩
 | 1, _ => exact ⟨rfl, rfl, rfl, rfl, trivial⟩
 | 2, _ => exact ⟨rfl, rfl, rfl, (yj6 _).1, (yj6 _).2⟩
theorem ypx (y : Cl) : rdL (yoh std y 3) = (zgo y).ls /\ okL (yoh std y 3) := by
 refine zp6 (l := [zhd y.n, zs0 y.es]) rfl fun i hi => ?_
 match i, hi with
 | 0, _ => exact ⟨rfl, rfl, rfl, rfl, trivial⟩
 | 1, _ => exact ⟨rfl, rfl, rfl, (yj8 _).1, (yj8 _).2⟩
theorem yj7 (l : List Ls) : rdL (.lst 4 (zab l) (fun q => yl2 std (za6 l q))) = l.map zgl /\ okL (.lst 4 (zab l) (fun q => yl2 std (za6 l q))) := by
 refine zp6 (by simp [zab]) fun i hi => ?_
 rw [ziz (V := lsV) zgl (show i < l.length from hi)]
 exact ⟨rfl, rfl, rfl, (ypv _).1, (ypv _).2⟩
theorem yj9 (l : List Cl) : rdL (.lst 4 (zab l) (fun q => yoh std (zac l q))) = l.map zgo /\ okL (.lst 4 (zab l) (fun q => yoh std (zac l q))) := by
 refine zp6 (by simp [zab]) fun i hi => ?_
 rw [ziz (V := clV) zgo (show i < l.length from hi)]
 exact ⟨rfl, rfl, rfl, (ypx _).1, (ypx _).2⟩
theorem yfq (y : Cf) : rdL (.lst 4 3 (ysj std y)) = (zl0 y).ls /\ okL (.lst 4 3 (ysj std y)) := by
 refine zp6 (l := [zg1 y.v, zvs y.ls, zwg y.cs]) rfl fun i hi => ?_
 match i, hi with
 | 0, _ => exact ⟨rfl, rfl, rfl, rfl, trivial⟩
 | 1, _ => exact ⟨rfl, rfl, rfl, (yj7 _).1, (yj7 _).2⟩
 | 2, _ => exact ⟨rfl, rfl, rfl, (yj9 _).1, (yj9 _).2⟩
end Sy
end Go.Proofs.YtfonekpmkdkgnaaGreatDoor
