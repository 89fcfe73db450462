/-strings.Index, Count (of one byte), Compare, Join: the kit's contracts as summaries; Cut, Split; a text parted by a byte. Chapter 3 (label): letters, names, parts of a host; and what stands between these and the texts behind.-/
import Derived.Test.YthppjaoicibeiaaGreatDoorM3
import Derived.Test.YthppjaoicibeiaaGreatDoorShelf
import Derived.Shelf.Strconv.Itoa3
import Derived.Lib.AppendIntMem
import Derived.Lib.Walk
import Derived.WalkKit
import Derived.BigCall
import Derived.BigGuard
import Derived.Lib.AtoiErrMem
import Derived.Lib.ParseIntBCases
import Derived.ChangeArms
import Derived.ChangeSlices
import Derived.OpenShut
import Derived.WideShapes
import Derived.Lib.Builder
namespace Go.Proofs.YthppjaoicibeiaaGreatDoor
namespace Sy
open Go Go.RowKit
set_option maxRecDepth 100000
set_option linter.unusedSimpArgs false
set_option linter.unusedVariables false
def zaz (c : UInt8) : List UInt8 -> List (List UInt8)
 | [] => [[]]
 | x :: s => if x = c then [] :: zaz c s else match zaz c s with
   | y :: r => (x :: y) :: r
   | [] => [[x]]
theorem zot (c : UInt8) : ∀ s, zaz c s ≠ []
 | [] => by simp [zaz]
 | x :: s => by
   unfold zaz
   split
   · simp
   · split <;> simp
theorem zk5 {c : UInt8} : ∀ {s : List UInt8} {m : Nat}, (∀ k, k < m -> s[k]? ≠ some c) -> s[m]? = some c -> zaz c s = s.take m :: zaz c (s.drop (m + 1))
 | [], m, _, h => by simp at h
 | x :: s, 0, _, h => by
   simp at h; subst h
   simp [zaz]
 | x :: s, m + 1, h0, h => by
   have hx : x ≠ c := by
     have := h0 0 (by omega)
     intro e; subst e; simp at this
   have ih := zk5 (s := s) (m := m) (fun k hk => by have := h0 (k + 1) (by omega); simpa using this) (by simpa using h)
   rw [zaz, if_neg hx, ih]
   simp
theorem zfr {c : UInt8} : ∀ {s : List UInt8}, (∀ k : Nat, s[k]? ≠ some c) -> zaz c s = [s]
 | [], _ => rfl
 | x :: s, h0 => by
   have hx : x ≠ c := by
     have := h0 0
     intro e; subst e; simp at this
   have ih := zfr (s := s) (fun k => by have := h0 (k + 1); simpa using this)
   rw [zaz, if_neg hx, ih]
theorem zb4 (c : UInt8) : ∀ s : List UInt8, (zaz c s).length = s.count c + 1
 | [] => by simp [zaz]
 | x :: s => by
   have ih := zb4 c s
   unfold zaz
   by_cases hx : x = c
   · rw [if_pos hx, List.length_cons, ih, hx, List.count_cons_self]
   · rw [if_neg hx, List.count_cons_of_ne (fun e => hx e)]
     cases hs : zaz c s with
     | nil => exact absurd hs (zot c s)
     | cons y r => rw [hs] at ih; simpa using ih
theorem yaj {s : List UInt8} {c : UInt8} (h : Lib.indexByte s c < 0) : ∀ k : Nat, s[k]? ≠ some c := by
 have := Lib.indexByte_ge s c
 exact Lib.indexByte_none (by omega)
theorem zpj {s : List UInt8} {c : UInt8} (h : ¬ Lib.indexByte s c < 0) : s[(Lib.indexByte s c).toNat]? = some c /\ (∀ k, k < (Lib.indexByte s c).toNat -> s[k]? ≠ some c) /\ (Lib.indexByte s c).toNat < s.length := by
 obtain ⟨o, ho⟩ : ∃ o : Nat, Lib.indexByte s c = o := ⟨(Lib.indexByte s c).toNat, by omega⟩
 have h1 := Lib.indexByte_some ho
 have e : (Lib.indexByte s c).toNat = o := by omega
 rw [e]
 exact ⟨h1.1, h1.2, (List.getElem?_eq_some_iff.1 h1.1).1⟩
theorem ypg (s : List UInt8) (c : UInt8) : -1 <= Lib.indexByte s c /\ Lib.indexByte s c <= s.length := by
 have h0 := Lib.indexByte_ge s c
 by_cases h : Lib.indexByte s c < 0
 · omega
 · have := (zpj h).2.2; omega
def by1 (sep : List UInt8) : UInt8 := sep.headD 0
def zrd (sep : List UInt8) : Prop := sep.length = 1
theorem zrc {sep : List UInt8} (h : zrd sep) : sep = [by1 sep] := by
 match sep, h with
 | [c], _ => rfl
def ziu (s sep : List UInt8) : Int := Lib.indexByte s (by1 sep)
def cntZ (s sep : List UInt8) : Int := s.count (by1 sep)
def zbg (s sep : List UInt8) : List (List UInt8) := zaz (by1 sep) s
def zhr (l : List (List UInt8)) : Nat := l.length
def yel (L : za8) (l : List (List UInt8)) : AV := .lst 1 (L zhr l) (fun i _ => .str (L2 L ze8 l i))
def ykr (L : za8) : zbv := (184, fun xs => match xs with | [.str s, .str sep] => some (L zrd sep, .int .i64 (L2 L ziu s sep)) | _ => none)
def ykv (L : za8) : zbv := (207, fun xs => match xs with | [.str s, .str sep] => some (L zrd sep, .int .i64 (L2 L ziu s sep)) | _ => none)
def yls (L : za8) : zbv := (206, fun xs => match xs with | [.str s, .str sep] => some (L zrd sep, .int .i64 (L2 L cntZ s sep)) | _ => none)
theorem yfa : zb6 Tryz.prog (ykr std) := by
 intro xs p r h hp
 dsimp only [ykr] at h |-
 split at h <;> cases h
 try simp only [L2, L3, std] at hp |-
 rename_i s sep
 have h1 := zrc (show zrd sep from hp)
 rw [h1]
 refine ze7 (fn := Tryz.f184) rfl rfl (by kernel_rfl) (zx8 (zcm _) (zcm _)) (ykk _ _) (fun w => (Tryz.strings_Index_one ⟨s.toArray⟩ (by1 sep) w).mono ?_)
 rintro e w' ⟨rfl, rfl⟩
 exact ⟨rfl, Below.refl _ _⟩
theorem yfd : zb6 Tryz.prog (ykv std) := by
 intro xs p r h hp
 dsimp only [ykv] at h |-
 split at h <;> cases h
 try simp only [L2, L3, std] at hp |-
 rename_i s sep
 have h1 := zrc (show zrd sep from hp)
 rw [h1]
 refine ze7 (fn := Tryz.f207) rfl rfl (by kernel_rfl) (zx8 (zcm _) (zcm _)) (ykk _ _) (fun w => (Tryz.stringslite_Index_one ⟨s.toArray⟩ (by1 sep) w).mono ?_)
 rintro e w' ⟨rfl, rfl⟩
 exact ⟨rfl, Below.refl _ _⟩
theorem yg3 : zb6 Tryz.prog (yls std) := by
 intro xs p r h hp
 dsimp only [yls] at h |-
 split at h <;> cases h
 try simp only [L2, L3, std] at hp |-
 rename_i s sep
 have h1 := zrc (show zrd sep from hp)
 rw [h1]
 refine ze7 (fn := Tryz.f206) rfl rfl (by kernel_rfl) (zx8 (zcm _) (zcm _)) (ykk _ _) (fun w => (Tryz.strings_Count_one ⟨s.toArray⟩ (by1 sep) w).mono ?_)
 rintro e w' ⟨rfl, rfl⟩
 exact ⟨rfl, Below.refl _ _⟩
def yfy (s sep : List UInt8) : List UInt8 := if ziu s sep < 0 then s else s.take (ziu s sep).toNat
def ybl (s sep : List UInt8) : List UInt8 := if ziu s sep < 0 then [] else s.drop ((ziu s sep).toNat + 1)
def yq9 (s sep : List UInt8) : Bool := decide (0 <= ziu s sep)
def ybj (L : za8) : zbv := (195, fun xs => match xs with | [.str s, .str sep] => some (L zrd sep /\ L2 L upto 1000000000 s, .tup [.str (L2 L yfy s sep), .str (L2 L ybl s sep), .bool (L2 L yq9 s sep)]) | _ => none)
def ylm (L : za8) : zbv := (171, fun xs => match xs with | [.str s, .str sep] => some (L zrd sep /\ L2 L upto 1000000000 s, .tup [.str (L2 L yfy s sep), .str (L2 L ybl s sep), .bool (L2 L yq9 s sep)]) | _ => none)
theorem ybk : zb6 Tryz.prog (ybj std) := by
 intro xs p r h hp
 dsimp only [ybj] at h |-
 split at h <;> cases h
 try simp only [L2, L3, std] at hp |-
 rename_i s sep
 obtain ⟨p1, p2⟩ : zrd sep /\ s.length <= 1000000000 := hp
 refine zae (T := tt) (S := fun L => zat [ykv L]) (lo := noA) (lb := noA) 5 (fn := Tryz.f195) rfl rfl (by kernel_rfl) (by kernel_rfl) rfl za9 (za3 ⟨yfd, trivial⟩) (by kernel_rfl) ?_
 (intro L P1 Q1 hL hP hQ; cbv; subst hL; simp only [L2, L3, std, syT]; subst hQ)
 (simp only [syS, reduceCtorEq, Int.reduceToNat, Int.reduceAdd, Int.reduceSub])
 have hl := ypg s (by1 sep)
 refine ⟨p1, fun h => ?_, fun h => ?_⟩
 · have := (zpj (c := by1 sep) (s := s) (by show ¬ ziu s sep < 0; omega)).2.2
   have e0 : ¬ ziu s sep < 0 := by omega
   have e1 : (sep.length : Int) = 1 := by rw [p1]; rfl
   have hl : -1 <= ziu s sep /\ ziu s sep <= s.length := hl
   have this : (ziu s sep).toNat < s.length := this
   rw [e1, show (ziu s sep + 1 + 9223372036854775808) % 18446744073709551616 - 9223372036854775808 = ziu s sep + 1 by omega]
   refine ⟨by omega, by omega, (if_neg e0).symm, ?_, (decide_eq_true h).symm⟩
   rw [ybl, if_neg e0, show (ziu s sep + 1).toNat = (ziu s sep).toNat + 1 by omega]
 · exact ⟨(if_pos (by omega)).symm, (if_pos (by omega)).symm, (decide_eq_false (by omega)).symm⟩
theorem yfv : zb6 Tryz.prog (ylm std) := by
 intro xs p r h hp
 dsimp only [ylm] at h |-
 split at h <;> cases h
 try simp only [L2, L3, std] at hp |-
 rename_i s sep
 obtain ⟨p1, p2⟩ : zrd sep /\ s.length <= 1000000000 := hp
 refine zae (T := tt) (S := fun L => zat [ybj L]) (lo := noA) (lb := noA) 5 (fn := Tryz.f171) rfl rfl (by kernel_rfl) (by kernel_rfl) rfl za9 (za3 ⟨ybk, trivial⟩) (by kernel_rfl) ?_
 (intro L P1 Q1 hL hP hQ; cbv; subst hL; simp only [L2, L3, std, syT]; subst hQ)
 (simp only [syS, reduceCtorEq, Int.reduceToNat, Int.reduceAdd, Int.reduceSub])
 exact ⟨p1, p2⟩
def zes (c : UInt8) (s : List UInt8) : Nat -> List UInt8
 | 0 => s
 | i + 1 => (zes c s i).drop ((Lib.indexByte (zes c s i) c).toNat + 1)
theorem zgc (c : UInt8) (s : List UInt8) : ∀ i, i <= s.count c -> zaz c (zes c s i) = (zaz c s).drop i /\ (zes c s i).length <= s.length
 | 0, _ => by simp [zes]
 | i + 1, h => by
   obtain ⟨ih, hl⟩ := zgc c s i (by omega)
   have hlen := congrArg List.length ih
   rw [zb4, List.length_drop, zb4] at hlen
   have hn : ¬ Lib.indexByte (zes c s i) c < 0 := by
     intro hn
     have h0 := zfr (yaj hn)
     have := congrArg List.length h0
     rw [zb4] at this
     simp at this
     omega
   obtain ⟨h1, h2, h3⟩ := zpj hn
   have e := zk5 h2 h1
   rw [ih] at e
   have e2 := congrArg (List.drop 1) e
   rw [List.drop_drop, List.drop_succ_cons, List.drop_zero] at e2
   refine ⟨by rw [zes, <- e2], ?_⟩
   rw [zes, List.length_drop]; omega
theorem znd {c : UInt8} {s : List UInt8} {i : Nat} (h : i < s.count c) : 0 <= Lib.indexByte (zes c s i) c /\ (Lib.indexByte (zes c s i) c).toNat < (zes c s i).length /\ ze8 (zaz c s) i = (zes c s i).take (Lib.indexByte (zes c s i) c).toNat := by
 obtain ⟨ih, hl⟩ := zgc c s i (by omega)
 have hlen := congrArg List.length ih
 rw [zb4, List.length_drop, zb4] at hlen
 have hn : ¬ Lib.indexByte (zes c s i) c < 0 := by
   intro hn
   have h0 := zfr (yaj hn)
   have := congrArg List.length h0
   rw [zb4] at this
   simp at this
   omega
 obtain ⟨h1, h2, h3⟩ := zpj hn
 refine ⟨by omega, h3, ?_⟩
 have e := zk5 h2 h1
 rw [ih] at e
 have hlt : i < (zaz c s).length := by rw [zb4]; omega
 rw [ze8, List.getD_eq_getElem?_getD, List.getElem?_eq_getElem hlt]
 rw [List.drop_eq_getElem_cons hlt] at e
 exact (List.cons.inj e).1
theorem zyx (c : UInt8) (s : List UInt8) : ze8 (zaz c s) (s.count c) = zes c s (s.count c) := by
 obtain ⟨ih, hl⟩ := zgc c s (s.count c) (Nat.le_refl _)
 have hlen := congrArg List.length ih
 rw [zb4, List.length_drop, zb4] at hlen
 have hc : (zes c s (s.count c)).count c = 0 := by omega
 have h0 : zaz c (zes c s (s.count c)) = [zes c s (s.count c)] := zfr (fun k hk => by
   have := List.count_pos_iff.2 (List.mem_of_getElem? hk)
   omega)
 rw [h0] at ih
 have hlt : s.count c < (zaz c s).length := by rw [zb4]; omega
 rw [ze8, List.getD_eq_getElem?_getD, List.getElem?_eq_getElem hlt]
 rw [List.drop_eq_getElem_cons hlt] at ih
 exact (List.cons.inj ih).1.symm
def zfs (s sep : List UInt8) (i : Nat) : List UInt8 := zes (by1 sep) s i
def zwu (s sep : List UInt8) (i j : Nat) : List UInt8 := if j < i then ze8 (zbg s sep) j else []
def cntB (s sep : List UInt8) : Nat := s.count (by1 sep)
theorem yqc (s sep : List UInt8) : cntB s sep <= s.length := List.count_le_length
def splA (L : za8) (s sep : List UInt8) : Nat -> St -> Option Ann := fun id st => match id with
 | 0 => some ⟨Nat, fun i => [(0, .str (L3 L zfs s sep i)), (10, .int .i64 (L zbd i)), (9, .sl 900 1 0 (L (fun n : Nat => n + 1) (L2 L cntB s sep))), (3, .int .i64 (L zbd (L2 L cntB s sep)))],
     fun i => [(900, .row 9 1 (L (fun n : Nat => n + 1) (L2 L cntB s sep)) (fun j _ => .str (L (L3 L zwu s sep i) j)))], [1, 2], [],
     fun i => L3 L (fun s sep i => i <= cntB s sep) s sep i, fun i => L3 L (fun s sep i => cntB s sep - i) s sep i⟩
 | _ => none
theorem yh6 (q : Nat) (v : List UInt8) (f : Nat -> List UInt8) (i j : Nat) (h : j < 1) : over std q 0 1 [.str v] (fun i _ => .str (f i)) i j = .str (if i = q then v else f i) := by
 have : j = 0 := by omega
 subst this
 rw [znj, if_pos ⟨Nat.le_refl _, by omega⟩]
 by_cases h : i = q
 · subst h; simp [za5, zgx, L3, std, zbn]
 · simp [zam h, zgx, L3, std, zbn, h]
def nev (f : Nat) : zbv := (f, fun _ => some (False, .dead))
theorem yea (f : Nat) : zb6 Tryz.prog (nev f) := by
 intro xs p r h hp
 cases h
 exact hp.elim
def yl0 (L : za8) : zbv := (182, fun xs => match xs with
 | [.str s, .str sep, .int .i64 a, .int .i64 b] => some (L zrd sep /\ L2 L upto 1000000000 s /\ L2 L (fun a b : Int => a = 0 /\ b = -1) a b, yel L (L2 L zbg s sep))
 | _ => none)
theorem yfg : zb6 Tryz.prog (yl0 std) := by
 intro xs p r h hp
 dsimp only [yl0] at h |-
 split at h <;> cases h
 try simp only [L2, L3, std] at hp |-
 rename_i s sep a b
 obtain ⟨p1, p2, rfl, rfl⟩ : zrd sep /\ s.length <= 1000000000 /\ a = 0 /\ b = -1 := hp
 refine zae (T := tt) (S := fun L => zat [ykr L, yls L, nev 205]) (lo := fun L => splA L s sep) (lb := noA) 5 (fn := Tryz.f182) rfl rfl (by kernel_rfl) (by kernel_rfl) rfl za9 (za3 ⟨yfa, yg3, yea _, trivial⟩) (by kernel_rfl) ?_
 intro L P' Q' hL hP hQ
 (cbv; try simp only [syT, true_and, and_true])
 have hc : cntZ s sep = (cntB s sep : Int) := rfl
 have hle := yqc s sep
 have hsep : sep ≠ [] := fun e => by rw [e] at p1; cases p1
 refine ⟨fun h => ?_, fun h1 => ⟨fun h => ?_, fun h2 => ⟨fun h3 => ⟨?_, ?_, ⟨0, ?_⟩, fun i hi => ?_⟩, fun h3 => ?_⟩⟩⟩
 · (subst hL; subst hQ; simp only [L2, L3, std] at *; try simp only [syS, reduceCtorEq, Int.reduceToNat, Int.reduceAdd, Int.reduceSub] at *)
 · (subst hL; subst hQ; simp only [L2, L3, std] at *; try simp only [syS, reduceCtorEq, Int.reduceToNat, Int.reduceAdd, Int.reduceSub] at *)
   exact absurd h hsep
 · (subst hL; subst hQ; simp only [L2, L3, std] at *; try simp only [syS, reduceCtorEq, Int.reduceToNat, Int.reduceAdd, Int.reduceSub] at *)
   exact p1
 · (subst hL; subst hQ; simp only [L2, L3, std] at *; try simp only [syS, reduceCtorEq, Int.reduceToNat, Int.reduceAdd, Int.reduceSub] at *)
   rw [hc]
   omega
 · (cbv; try simp only [syT, true_and, and_true])
   (subst hL; subst hQ; simp only [L2, L3, std] at *; try simp only [syS, reduceCtorEq, Int.reduceToNat, Int.reduceAdd, Int.reduceSub] at *)
   rw [hc, show min (((cntB s sep : Nat) + 1 + 9223372036854775808 : Int) % 18446744073709551616 - 9223372036854775808) (((s.length : Nat) + 1 + 9223372036854775808 : Int) % 18446744073709551616 - 9223372036854775808) = (cntB s sep : Nat) + 1 by omega]
   refine ⟨⟨by omega, fun k j hk hj => ?_⟩, by omega, by omega, rfl, Nat.zero_le _⟩
   rw [zwu, if_neg (by omega)]
   match j, hj with
   | 0, _ => rfl
 · cbv at hi
   (cbv; try simp only [syT, true_and, and_true])
   refine ⟨fun h4 => ⟨?_, fun h5 => ?_, fun h5 => ⟨?_, ?_, ?_, i + 1, ?_⟩⟩, fun h4 => ⟨?_, ?_, ?_⟩⟩
   · (subst hL; subst hQ; simp only [L2, L3, std] at *; try simp only [syS, reduceCtorEq, Int.reduceToNat, Int.reduceAdd, Int.reduceSub] at *)
     exact p1
   · (subst hL; subst hQ; simp only [L2, L3, std] at *; try simp only [syS, reduceCtorEq, Int.reduceToNat, Int.reduceAdd, Int.reduceSub] at *)
     obtain ⟨r1, r2, r3⟩ := znd (c := by1 sep) (s := s) (i := i) (show i < cntB s sep by omega)
     exfalso
     have h5 : Lib.indexByte (zes (by1 sep) s i) (by1 sep) < 0 := h5
     omega
   · (subst hL; subst hQ; simp only [L2, L3, std] at *; try simp only [syS, reduceCtorEq, Int.reduceToNat, Int.reduceAdd, Int.reduceSub] at *)
     obtain ⟨r1, r2, r3⟩ := znd (c := by1 sep) (s := s) (i := i) (show i < cntB s sep by omega)
     obtain ⟨q1, q2⟩ := zgc (by1 sep) s i hi
     have r1 : 0 <= ziu (zfs s sep i) sep := r1
     have r2 : (ziu (zfs s sep i) sep).toNat < (zfs s sep i).length := r2
     have q2 : (zfs s sep i).length <= s.length := q2
     omega
   · (subst hL; subst hQ; simp only [L2, L3, std] at *; try simp only [syS, reduceCtorEq, Int.reduceToNat, Int.reduceAdd, Int.reduceSub] at *)
     omega
   · (subst hL; subst hQ; simp only [L2, L3, std] at *; try simp only [syS, reduceCtorEq, Int.reduceToNat, Int.reduceAdd, Int.reduceSub] at *)
     obtain ⟨r1, r2, r3⟩ := znd (c := by1 sep) (s := s) (i := i) (show i < cntB s sep by omega)
     obtain ⟨q1, q2⟩ := zgc (by1 sep) s i hi
     have r1 : 0 <= ziu (zfs s sep i) sep := r1
     have r2 : (ziu (zfs s sep i) sep).toNat < (zfs s sep i).length := r2
     have q2 : (zfs s sep i).length <= s.length := q2
     have e1 : (sep.length : Int) = 1 := by rw [p1]; rfl
     omega
   · (cbv; try simp only [syT, true_and, and_true])
     (subst hL; subst hQ; simp only [L2, L3, std] at *; try simp only [syS, reduceCtorEq, Int.reduceToNat, Int.reduceAdd, Int.reduceSub] at *)
     obtain ⟨r1, r2, r3⟩ := znd (c := by1 sep) (s := s) (i := i) (show i < cntB s sep by omega)
     obtain ⟨q1, q2⟩ := zgc (by1 sep) s i hi
     have r1 : 0 <= ziu (zfs s sep i) sep := r1
     have r2 : (ziu (zfs s sep i) sep).toNat < (zfs s sep i).length := r2
     have q2 : (zfs s sep i).length <= s.length := q2
     have e1 : (sep.length : Int) = 1 := by rw [p1]; rfl
     refine ⟨fun k j hk hj => ?_, by omega, ?_, by omega, by omega⟩
     · rw [yh6 _ _ _ _ _ hj]
       congr 1
       by_cases hki : k = i
       · subst hki
         rw [if_pos rfl, zwu, if_pos (by omega), show (ziu (zfs s sep k) sep + 0 + 9223372036854775808) % 18446744073709551616 - 9223372036854775808 = ziu (zfs s sep k) sep by omega]
         exact r3.symm
       · rw [if_neg hki, zwu, zwu]
         by_cases hlt : k < i
         · rw [if_pos hlt, if_pos (by omega)]
         · rw [if_neg hlt, if_neg (by omega)]
     · rw [e1, show ((ziu (zfs s sep i) sep + 1 + 9223372036854775808) % 18446744073709551616 - 9223372036854775808).toNat = (ziu (zfs s sep i) sep).toNat + 1 by omega]
       rfl
   · (subst hL; subst hQ; simp only [L2, L3, std] at *; try simp only [syS, reduceCtorEq, Int.reduceToNat, Int.reduceAdd, Int.reduceSub] at *)
     omega
   · (subst hL; subst hQ; simp only [L2, L3, std] at *; try simp only [syS, reduceCtorEq, Int.reduceToNat, Int.reduceAdd, Int.reduceSub] at *)
     omega
   · (subst hL; subst hQ; simp only [L2, L3, std] at *; try simp only [syS, reduceCtorEq, Int.reduceToNat, Int.reduceAdd, Int.reduceSub] at *)
     have hi' : i = cntB s sep := by omega
     subst hi'
     rw [show ((cntB s sep : Nat) + 1 + 9223372036854775808 : Int) % 18446744073709551616 - 9223372036854775808 = ((cntB s sep + 1 : Nat) : Int) by omega, Int.toNat_natCast]
     show zhx (.lst 1 (zaz (by1 sep) s).length _) _
     rw [zhw, zb4]
     refine ⟨rfl, fun k j hk hj => ?_⟩
     rw [yh6 _ _ _ _ _ hj]
     congr 1
     by_cases hki : k = cntB s sep
     · rw [if_pos hki, hki]; exact (zyx _ _).symm
     · have hk : k < cntB s sep + 1 := hk
       rw [if_neg hki, zwu, if_pos (by omega)]
       rfl
 · (subst hL; subst hQ; simp only [L2, L3, std] at *; try simp only [syS, reduceCtorEq, Int.reduceToNat, Int.reduceAdd, Int.reduceSub] at *)
   exact absurd h3 (by decide)
def yd9 (L : za8) : zbv := (143, fun xs => match xs with | [.str s, .str sep] => some (L zrd sep /\ L2 L upto 1000000000 s, yel L (L2 L zbg s sep)) | _ => none)
theorem zt2 : zb6 Tryz.prog (yd9 std) := by
 intro xs p r h hp
 dsimp only [yd9] at h |-
 split at h <;> cases h
 try simp only [L2, L3, std] at hp |-
 rename_i s sep
 obtain ⟨p1, p2⟩ : zrd sep /\ s.length <= 1000000000 := hp
 refine zae (T := tt) (S := fun L => zat [yl0 L]) (lo := noA) (lb := noA) 5 (fn := Tryz.f143) rfl rfl (by kernel_rfl) (by kernel_rfl) rfl za9 (za3 ⟨yfg, trivial⟩) (by kernel_rfl) ?_
 (intro L P1 Q1 hL hP hQ; cbv; subst hL; simp only [L2, L3, std, syT]; subst hQ)
 (simp only [syS, reduceCtorEq, Int.reduceToNat, Int.reduceAdd, Int.reduceSub])
 refine ⟨⟨p1, p2⟩, ?_⟩
 show zhx (.lst 1 (zhr (zbg s sep)) _) _
 rw [zhw]
 exact ⟨rfl, fun i j hi hj => rfl⟩
def toS : AV -> List UInt8
 | .str s => s
 | _ => []
def zcd (n : Nat) (get : Nat -> Nat -> AV) : List (List UInt8) := (List.range n).map fun i => toS (get i 0)
def jnZ (sep : List UInt8) (x : AV) : List UInt8 := match x with
 | .lst _ n get => Lib.join (zcd n get) sep
 | _ => []
def yrh (sep : List UInt8) (x : AV) : Prop := match x with
 | .lst 1 n get => (∀ i, i < n -> ∃ s, get i 0 = .str s) /\ n <= 1000000 /\ (Lib.join (zcd n get) sep).length <= 140737488355328
 | .nils => True
 | _ => False
def yrg (L : za8) : zbv := (88, fun xs => match xs with | [x, .str sep] => some (L2 L yrh sep x, .str (L2 L jnZ sep x)) | _ => none)
theorem yqt {h : Array Obj} {D : Nat -> Prop} {x y : AV} {vs : Array Value} (hr : RL h D zar [x, y] vs) : ∃ a b, vs = #[a, b] /\ R h D zar x a /\ R h D zar y b := by
 obtain ⟨hl, hr⟩ := hr
 obtain ⟨a, b, ha⟩ : ∃ a b, vs.toList = [a, b] := by
   have hl : vs.toList.length = 2 := by simpa using hl.symm
   match vs.toList, hl with
   | [a, b], _ => exact ⟨a, b, rfl⟩
 have : vs = #[a, b] := by rw [<- Array.toArray_toList (xs := vs), ha]
 subst this
 exact ⟨a, b, rfl, hr 0 x a rfl rfl, hr 1 y b rfl rfl⟩
theorem ya9 : zb6 Tryz.prog (yrg std) := by
 intro xs p r h hp
 dsimp only [yrg] at h |-
 split at h <;> cases h
 try simp only [L2, L3, std] at hp |-
 rename_i x sep
 have hp : yrh sep x := hp
 intro D w vs hD hxs hg
 obtain ⟨a, b, rfl, rx, ry⟩ := yqt hxs
 obtain rfl := zy6 ry
 unfold zfm
 rw [zck (fn := Tryz.f88) rfl (by kernel_rfl) rfl]
 have fin : ∀ (l : List UInt8), l = jnZ sep x -> (∀ w', Below w.heap.size w w' -> ∃ v D', Ending.returned (.string ⟨l.toArray⟩) = .returned v /\ Below w.heap.size w w' /\ (∀ b, D b -> D' b) /\ (∀ b, D' b -> D b \/ (w.heap.size <= b /\ b < w'.heap.size)) /\ R w'.heap D' zar (.str (jnZ sep x)) v) := by
   rintro l rfl w' hw
   exact ⟨_, D, rfl, hw, fun _ h => h, fun b hb => .inl hb, yd8 _ _ _ _⟩
 have none_ : jnZ sep x = [] -> ∀ (a : Option Addr) (c : Nat), Calls Tryz.prog 88 #[.slice a 0 c, .string ⟨sep.toArray⟩] w fun e w' => ∃ v D', e = .returned v /\ Below w.heap.size w w' /\ (∀ b, D b -> D' b) /\ (∀ b, D' b -> D b \/ (w.heap.size <= b /\ b < w'.heap.size)) /\ R w'.heap D' zar (.str (jnZ sep x)) v := by
   intro h0 a c
   refine (Tryz.strings_Join_none a c ⟨sep.toArray⟩ w).mono ?_
   rintro e w' ⟨rfl, rfl⟩
   exact fin [] h0.symm _ (Below.refl _ _)
 unfold yrh at hp
 split at hp
 · rename_i n get _
   obtain ⟨h1, h2, h3⟩ := hp
   cases rx with
   | lst0 => exact none_ rfl _ _
   | lst _ _ _ b o cap us hD0 hc hv h1' hr =>
     have hl : (zcd n get).length = n := by rw [zcd, List.length_map, List.length_range]
     have hq : ∀ j x, ((zcd n get).map (fun s : List UInt8 => (⟨s.toArray⟩ : ByteArray)))[j]? = some x -> w.cell? ⟨b, o + j, none⟩ = some (.string x) := by
       intro j x hj
       have hjn : j < n := by
         have := (List.getElem?_eq_some_iff.1 hj).1
         rw [List.length_map, hl] at this
         exact this
       obtain ⟨s, hs⟩ := h1 j hjn
       have r := hr j 0 hjn (by omega)
       rw [hs] at r
       have hv := hv j 0 hjn (by omega)
       rw [zy6 r, Nat.mul_one, Nat.add_zero] at hv
       rw [zld, hv]
       have e2 : (zcd n get)[j]? = some s := by rw [zcd, List.getElem?_map, List.getElem?_range hjn, Option.map_some, hs]; rfl
       rw [List.getElem?_map, e2] at hj
       cases hj
       rfl
     have hm : ((zcd n get).map (fun s : List UInt8 => (⟨s.toArray⟩ : ByteArray))).map (·.data.toList) = zcd n get := by
       rw [List.map_map]
       exact List.map_id' _
     have := Tryz.strings_Join b o cap ((zcd n get).map (fun s : List UInt8 => (⟨s.toArray⟩ : ByteArray))) ⟨sep.toArray⟩ w hq (hD b hD0) (by rw [List.length_map, hl]; omega) (by rw [List.length_map, hl]; exact hc) (by rw [hm]; exact h3)
     rw [hm, List.length_map, hl] at this
     refine this.mono ?_
     rintro e w' ⟨rfl, hw⟩
     exact fin _ rfl _ hw
 · cases rx
   exact none_ rfl _ _
 · exact hp.elim
def ykb (c : Int) : Bool := decide (97 <= c) && decide (c <= 122)
def yra (c : Int) : Bool := ykb c || (decide (48 <= c) && decide (c <= 57))
def zzp (c : Int) : Bool := yra c || (decide (c = 45) || decide (c = 95))
def zjp (L : za8) : zbv := (176, fun xs => match xs with
 | [.int .u8 c] => some (True, .bool (L ykb c))
 | _ => none)
theorem zku : zb6 Tryz.prog (zjp std) := by
 intro xs p r h hp
 dsimp only [zjp] at h |-
 split at h <;> cases h
 try simp only [L2, L3, std] at hp |-
 rename_i c
 refine zae (T := tt) (S := noS) (lo := noA) (lb := noA) 5 (fn := Tryz.f176) rfl rfl (by kernel_rfl) (by kernel_rfl) rfl za9 (zbb _) (by kernel_rfl) ?_
 (intro L P1 Q1 hL hP hQ; cbv; subst hL; simp only [L2, L3, std, syT]; subst hQ)
 (simp only [syS, reduceCtorEq, Int.reduceToNat, Int.reduceAdd, Int.reduceSub])
 unfold ykb ile
 refine ⟨fun h => by simp [h], fun h => ?_⟩
 rw [decide_eq_false (by omega)]; rfl
def zni (L : za8) : zbv := (177, fun xs => match xs with
 | [.int .u8 c] => some (True, .bool (L yra c))
 | _ => none)
theorem zm9 : zb6 Tryz.prog (zni std) := by
 intro xs p r h hp
 dsimp only [zni] at h |-
 split at h <;> cases h
 try simp only [L2, L3, std] at hp |-
 rename_i c
 refine zae (T := tt) (S := fun L => zat [zjp L]) (lo := noA) (lb := noA) 5 (fn := Tryz.f177) rfl rfl (by kernel_rfl) (by kernel_rfl) rfl za9 (za3 ⟨zku, trivial⟩) (by kernel_rfl) ?_
 (intro L P1 Q1 hL hP hQ; cbv; subst hL; simp only [L2, L3, std, syT]; subst hQ)
 (simp only [syS, reduceCtorEq, Int.reduceToNat, Int.reduceAdd, Int.reduceSub])
 unfold yra ile
 refine ⟨fun h => by simp [h], fun h => ⟨fun h2 => by simp [h, h2], fun h2 => ?_⟩⟩
 rw [h, decide_eq_false (show ¬ 48 <= c by omega)]; rfl
def ycz (f : Int -> Bool) (s : List UInt8) : Bool := s.all fun b => f (b.toNat : Int)
def zjf (f : Int -> Bool) (s : List UInt8) (i : Nat) : Prop := i <= s.length /\ ∀ k, k < i -> f (zad s k) = true
def toC (s : List UInt8) (i : Nat) : Nat := s.length - i
theorem zgn {s : List UInt8} {i : Nat} (h : i < s.length) : zad s i = (s[i].toNat : Int) := by
 rw [zad, List.getD_eq_getElem?_getD, List.getElem?_eq_getElem h]; rfl
theorem zry (f : Int -> Bool) (s : List UInt8) : zjf f s 0 := ⟨Nat.zero_le _, fun k hk => by omega⟩
theorem zj0 {f : Int -> Bool} {s : List UInt8} {i : Nat} (h : zjf f s i) (hi : i < s.length) (hf : f (zad s i) = true) : zjf f s (i + 1) :=
 ⟨hi, fun k hk => by
   by_cases e : k = i
   · rw [e]; exact hf
   · exact h.2 k (by omega)⟩
theorem zl6 {f : Int -> Bool} {s : List UInt8} {i : Nat} (h : zjf f s i) (hi : s.length <= i) : ycz f s = true := by
 unfold ycz
 rw [List.all_eq_true]
 intro b hb
 obtain ⟨k, hk, rfl⟩ := List.getElem_of_mem hb
 have := h.2 k (by omega)
 rw [zgn hk] at this
 exact this
theorem zsn {f : Int -> Bool} {s : List UInt8} {i : Nat} (hi : i < s.length) (hf : f (zad s i) = false) : ycz f s = false := by
 unfold ycz
 rw [List.all_eq_false]
 refine ⟨s[i], List.getElem_mem hi, ?_⟩
 rw [zgn hi] at hf
 simp [hf]
def zgs (s : List UInt8) : Bool := !decide (s = []) && (!decide (32 < s.length) && (ykb (zad s 0) && ycz zzp s))
def ztr (L : za8) : zbv := (137, fun xs => match xs with
 | [.str s] => some (True, .bool (L zgs s))
 | _ => none)
def ysx (L : za8) (s : List UInt8) : Nat -> St -> Option Ann := fun id st => match id with
 | 0 => some ⟨Nat, fun i => [(19, .int .i64 (L zbd i))], fun i => [], [0, 18], [], fun i => L (L2 L zjf zzp s) i, fun i => L2 L toC s i⟩
 | _ => none
theorem zpb : zb6 Tryz.prog (ztr std) := by
 intro xs p r h hp
 dsimp only [ztr] at h |-
 split at h <;> cases h
 try simp only [L2, L3, std] at hp |-
 rename_i s
 refine za4 (T := tt) (S := fun L => zat [zjp L, zni L]) (lo := fun L => ysx L s) (lb := noA) 5 (fn := Tryz.f137) (xs := fun L => [.str s]) rfl rfl (by kernel_rfl) (by kernel_rfl) rfl za9 (za3 ⟨zku, zm9, trivial⟩) (by kernel_rfl) ?_
 intro L P' Q' hL hP hQ
 (cbv; try simp only [syT, true_and, and_true])
 refine ⟨fun h => ?_, fun h1 => ⟨fun h => ?_, fun h2 => ⟨?_, fun h => ?_, fun h3 => ⟨⟨0, ?_⟩, fun i hi => ?_⟩⟩⟩⟩
 · (subst hL; subst hQ; simp only [L2, L3, std] at *; try simp only [syS, reduceCtorEq, Int.reduceToNat, Int.reduceAdd, Int.reduceSub] at *)
   rw [zgs, decide_eq_true h]; rfl
 · (subst hL; subst hQ; simp only [L2, L3, std] at *; try simp only [syS, reduceCtorEq, Int.reduceToNat, Int.reduceAdd, Int.reduceSub] at *)
   rw [zgs, decide_eq_true (show 32 < s.length by omega)]; simp
 · (subst hL; subst hQ; simp only [L2, L3, std] at *; try simp only [syS, reduceCtorEq, Int.reduceToNat, Int.reduceAdd, Int.reduceSub] at *)
   have : s.length ≠ 0 := fun h => h1 (List.eq_nil_of_length_eq_zero h)
   omega
 · (subst hL; subst hQ; simp only [L2, L3, std] at *; try simp only [syS, reduceCtorEq, Int.reduceToNat, Int.reduceAdd, Int.reduceSub] at *)
   rw [zgs, show ykb (zad s 0) = false from h]; simp
 · (cbv; try simp only [syT, true_and, and_true])
   (subst hL; subst hQ; simp only [L2, L3, std] at *; try simp only [syS, reduceCtorEq, Int.reduceToNat, Int.reduceAdd, Int.reduceSub] at *)
   exact zry _ _
 · have hi2 : zjf zzp s i := by
     have h := hi
     rw [hL] at h
     exact h
   clear hi
   obtain ⟨hi3, hi4⟩ := hi2
   have g1 : ¬ s = [] := by
     rw [hL] at h1
     have h : seq s [] = false := h1
     simpa [seq] using h
   have g2 : ¬ 32 < s.length := by
     rw [hL] at h2
     have h : ilt 32 (s.length : Int) = false := h2
     rw [yai] at h
     omega
   have g3 : ykb (zad s 0) = true := by
     rw [hL] at h3
     have h : (!ykb (zad s 0)) = false := h3
     simpa using h
   have g4 : zgs s = ycz zzp s := by
     rw [zgs, decide_eq_false g1, decide_eq_false g2, g3]; rfl
   clear h1 h2 h3
   (cbv; try simp only [syT, true_and, and_true])
   have hcb : L (L zie s) (L zbd i) = zad s i := by subst hL; rfl
   rw [hcb]
   clear hcb
   have step : i < s.length -> zzp (zad s i) = true -> zjf zzp s (i + 1) /\ toC s (i + 1) + 1 <= toC s i := fun h1 h2 => ⟨zj0 ⟨hi3, hi4⟩ h1 h2, by show s.length - (i + 1) + 1 <= s.length - i; omega⟩
   have bad : i < s.length -> zzp (zad s i) = false -> zgs s = false := fun h1 h2 => by rw [g4]; exact zsn h1 h2
   generalize zad s i = c at step bad |-
   have hlt2 : L (L ilt (L zbd i)) (L slen s) = true -> i < s.length := by
     intro h
     rw [hL] at h
     have h : ilt (i : Int) (s.length : Int) = true := h
     rw [ykp] at h
     omega
   refine ⟨fun hlt => ⟨?_, fun h1 => ⟨?_, fun h2 => ⟨?_, fun h3 => ?_, fun h3 => ⟨i + 1, ?_⟩⟩, fun h2 => ⟨i + 1, ?_⟩⟩, fun h1 => ⟨i + 1, ?_⟩⟩, fun hge => ?_⟩
   · (subst hL; subst hQ; simp only [L2, L3, std] at *; try simp only [syS, reduceCtorEq, Int.reduceToNat, Int.reduceAdd, Int.reduceSub] at *)
     omega
   · (subst hL; subst hQ; simp only [L2, L3, std] at *; try simp only [syS, reduceCtorEq, Int.reduceToNat, Int.reduceAdd, Int.reduceSub] at *)
     omega
   · (subst hL; subst hQ; simp only [L2, L3, std] at *; try simp only [syS, reduceCtorEq, Int.reduceToNat, Int.reduceAdd, Int.reduceSub] at *)
     omega
   · have hli := hlt2 hlt
     (subst hL; subst hQ; simp only [L2, L3, std] at *; try simp only [syS, reduceCtorEq, Int.reduceToNat, Int.reduceAdd, Int.reduceSub] at *)
     rw [bad hli (by simp [zzp, h1, h2, h3])]
   · have hli := hlt2 hlt
     (cbv; try simp only [syT, true_and, and_true])
     (subst hL; subst hQ; simp only [L2, L3, std] at *; try simp only [syS, reduceCtorEq, Int.reduceToNat, Int.reduceAdd, Int.reduceSub] at *)
     obtain ⟨k1, k2⟩ := step hli (by simp [zzp, h3])
     exact ⟨by omega, k1, k2⟩
   · have hli := hlt2 hlt
     (cbv; try simp only [syT, true_and, and_true])
     (subst hL; subst hQ; simp only [L2, L3, std] at *; try simp only [syS, reduceCtorEq, Int.reduceToNat, Int.reduceAdd, Int.reduceSub] at *)
     obtain ⟨k1, k2⟩ := step hli (by simp [zzp, h2])
     exact ⟨by omega, k1, k2⟩
   · have hli := hlt2 hlt
     (cbv; try simp only [syT, true_and, and_true])
     (subst hL; subst hQ; simp only [L2, L3, std] at *; try simp only [syS, reduceCtorEq, Int.reduceToNat, Int.reduceAdd, Int.reduceSub] at *)
     obtain ⟨k1, k2⟩ := step hli (by simp [zzp, h1])
     exact ⟨by omega, k1, k2⟩
   · (subst hL; subst hQ; simp only [L2, L3, std] at *; try simp only [syS, reduceCtorEq, Int.reduceToNat, Int.reduceAdd, Int.reduceSub] at *)
     rw [g4, zl6 ⟨hi3, hi4⟩ (by omega)]
def ycv (c : Int) : Bool := yra c || decide (c = 45)
def ya6 (s : List UInt8) : Int := zad s (s.length - 1)
def zfu (s : List UInt8) : Bool := !decide (s = []) && (!decide (32 < s.length) && (!decide (zad s 0 = 45) && (!decide (ya6 s = 45) && ycz ycv s)))
def zzd (L : za8) : zbv := (144, fun xs => match xs with
 | [.str s] => some (True, .bool (L zfu s))
 | _ => none)
def ysq (L : za8) (s : List UInt8) : Nat -> St -> Option Ann := fun id st => match id with
 | 0 => some ⟨Nat, fun i => [(26, .int .i64 (L zbd i))], fun i => [], [0, 25], [], fun i => L (L2 L zjf ycv s) i, fun i => L2 L toC s i⟩
 | _ => none
theorem zze : zb6 Tryz.prog (zzd std) := by
 intro xs p r h hp
 dsimp only [zzd] at h |-
 split at h <;> cases h
 try simp only [L2, L3, std] at hp |-
 rename_i s
 refine za4 (T := tt) (S := fun L => zat [zni L]) (lo := fun L => ysq L s) (lb := noA) 5 (fn := Tryz.f144) (xs := fun L => [.str s]) rfl rfl (by kernel_rfl) (by kernel_rfl) rfl za9 (za3 ⟨zm9, trivial⟩) (by kernel_rfl) ?_
 intro L P' Q' hL hP hQ
 (cbv; try simp only [syT, true_and, and_true])
 refine ⟨fun h => ?_, fun h1 => ⟨fun h => ?_, fun h2 => ⟨?_, fun h => ?_, fun h3 => ⟨?_, fun h => ?_, fun h4 => ⟨⟨0, ?_⟩, fun i hi => ?_⟩⟩⟩⟩⟩
 · (subst hL; subst hQ; simp only [L2, L3, std] at *; try simp only [syS, reduceCtorEq, Int.reduceToNat, Int.reduceAdd, Int.reduceSub] at *)
   rw [zfu, decide_eq_true h]; rfl
 · (subst hL; subst hQ; simp only [L2, L3, std] at *; try simp only [syS, reduceCtorEq, Int.reduceToNat, Int.reduceAdd, Int.reduceSub] at *)
   rw [zfu, decide_eq_true (show 32 < s.length by omega)]; simp
 · (subst hL; subst hQ; simp only [L2, L3, std] at *; try simp only [syS, reduceCtorEq, Int.reduceToNat, Int.reduceAdd, Int.reduceSub] at *)
   have : s.length ≠ 0 := fun h => h1 (List.eq_nil_of_length_eq_zero h)
   omega
 · (subst hL; subst hQ; simp only [L2, L3, std] at *; try simp only [syS, reduceCtorEq, Int.reduceToNat, Int.reduceAdd, Int.reduceSub] at *)
   rw [zfu, decide_eq_true (show zad s 0 = 45 from h)]; simp
 · (subst hL; subst hQ; simp only [L2, L3, std] at *; try simp only [syS, reduceCtorEq, Int.reduceToNat, Int.reduceAdd, Int.reduceSub] at *)
   have : s.length ≠ 0 := fun h => h1 (List.eq_nil_of_length_eq_zero h)
   omega
 · have hl : ya6 s = 45 := by
     rw [hL] at h h2
     have h2 : ilt 32 (s.length : Int) = false := h2
     rw [yai] at h2
     have h : ieq (zad s (Int.toNat (yhy .i64 (s.length : Int) 1))) 45 = true := h
     rw [ypd] at h
     rw [<- h, ya6]
     congr 1
     simp only [yhy, zxy]
     omega
   subst hQ
   refine (zps _ _).mpr ?_
   rw [zfu, decide_eq_true hl]; simp
 · (cbv; try simp only [syT, true_and, and_true])
   (subst hL; subst hQ; simp only [L2, L3, std] at *; try simp only [syS, reduceCtorEq, Int.reduceToNat, Int.reduceAdd, Int.reduceSub] at *)
   exact zry _ _
 · have hi2 : zjf ycv s i := by
     have h := hi
     rw [hL] at h
     exact h
   clear hi
   obtain ⟨hi3, hi4⟩ := hi2
   have g1 : ¬ s = [] := by
     rw [hL] at h1
     have h : seq s [] = false := h1
     simpa [seq] using h
   have g2 : ¬ 32 < s.length := by
     rw [hL] at h2
     have h : ilt 32 (s.length : Int) = false := h2
     rw [yai] at h
     omega
   have g3 : ¬ zad s 0 = 45 := by
     rw [hL] at h3
     have h : ieq (zad s 0) 45 = false := h3
     rw [ykq] at h
     exact h
   have g5 : ¬ ya6 s = 45 := by
     rw [hL] at h4
     have h : ieq (zad s (Int.toNat (yhy .i64 (s.length : Int) 1))) 45 = false := h4
     rw [ykq] at h
     intro h5
     apply h
     rw [<- h5, ya6]
     congr 1
     simp only [yhy, zxy]
     omega
   have g4 : zfu s = ycz ycv s := by
     rw [zfu, decide_eq_false g1, decide_eq_false g2, decide_eq_false g3, decide_eq_false g5]; rfl
   clear h1 h2 h3 h4
   (cbv; try simp only [syT, true_and, and_true])
   have hcb : L (L zie s) (L zbd i) = zad s i := by subst hL; rfl
   rw [hcb]
   clear hcb
   have step : i < s.length -> ycv (zad s i) = true -> zjf ycv s (i + 1) /\ toC s (i + 1) + 1 <= toC s i := fun h1 h2 => ⟨zj0 ⟨hi3, hi4⟩ h1 h2, by show s.length - (i + 1) + 1 <= s.length - i; omega⟩
   have bad : i < s.length -> ycv (zad s i) = false -> zfu s = false := fun h1 h2 => by rw [g4]; exact zsn h1 h2
   generalize zad s i = c at step bad |-
   have hlt2 : L (L ilt (L zbd i)) (L slen s) = true -> i < s.length := by
     intro h
     rw [hL] at h
     have h : ilt (i : Int) (s.length : Int) = true := h
     rw [ykp] at h
     omega
   refine ⟨fun hlt => ⟨?_, fun h1 => ⟨?_, fun h2 => ?_, fun h2 => ⟨i + 1, ?_⟩⟩, fun h1 => ⟨i + 1, ?_⟩⟩, fun hge => ?_⟩
   · (subst hL; subst hQ; simp only [L2, L3, std] at *; try simp only [syS, reduceCtorEq, Int.reduceToNat, Int.reduceAdd, Int.reduceSub] at *)
     omega
   · (subst hL; subst hQ; simp only [L2, L3, std] at *; try simp only [syS, reduceCtorEq, Int.reduceToNat, Int.reduceAdd, Int.reduceSub] at *)
     omega
   · have hli := hlt2 hlt
     (subst hL; subst hQ; simp only [L2, L3, std] at *; try simp only [syS, reduceCtorEq, Int.reduceToNat, Int.reduceAdd, Int.reduceSub] at *)
     rw [bad hli (by simp [ycv, h1, h2])]
   · have hli := hlt2 hlt
     (cbv; try simp only [syT, true_and, and_true])
     (subst hL; subst hQ; simp only [L2, L3, std] at *; try simp only [syS, reduceCtorEq, Int.reduceToNat, Int.reduceAdd, Int.reduceSub] at *)
     obtain ⟨k1, k2⟩ := step hli (by simp [ycv, h2])
     exact ⟨by omega, k1, k2⟩
   · have hli := hlt2 hlt
     (cbv; try simp only [syT, true_and, and_true])
     (subst hL; subst hQ; simp only [L2, L3, std] at *; try simp only [syS, reduceCtorEq, Int.reduceToNat, Int.reduceAdd, Int.reduceSub] at *)
     obtain ⟨k1, k2⟩ := step hli (by simp [ycv, h1])
     exact ⟨by omega, k1, k2⟩
   · (subst hL; subst hQ; simp only [L2, L3, std] at *; try simp only [syS, reduceCtorEq, Int.reduceToNat, Int.reduceAdd, Int.reduceSub] at *)
     rw [g4, zl6 ⟨hi3, hi4⟩ (by omega)]
def yn3 (c : Int) : Int := if 65 <= c /\ c <= 90 then c + 32 else c
def lowB (b : UInt8) : UInt8 := UInt8.ofNat (yn3 (b.toNat : Int)).toNat
def zit (s : List UInt8) : List UInt8 := s.map lowB
def ycu (s : List UInt8) (i k : Nat) : Int := if k < i then yn3 (zad s k) else zad s k
theorem zks {s : List UInt8} {i k : Nat} : ycu s (i + 1) k = if k = i then yn3 (zad s i) else ycu s i k := by
 unfold ycu
 by_cases e : k = i
 · rw [if_pos e, if_pos (by omega), e]
 · rw [if_neg e]
   by_cases h : k < i
   · rw [if_pos (by omega), if_pos h]
   · rw [if_neg (by omega), if_neg h]
theorem yeo {s : List UInt8} {i : Nat} (h : s.length <= i) : zbf s.length (fun k => (AV.int .u8 (ycu s i (0 + k))).toI) = zit s := by
 apply List.ext_getElem
 · simp [zbf, zit]
 · intro k h1 h2
   have hk : k < s.length := by simpa [zit] using h2
   simp only [zbf, zit, List.getElem_map, List.getElem_range, AV.toI, Nat.zero_add]
   rw [ycu, if_pos (by omega), zgn hk]
   rfl
def leN8 (s : List UInt8) (i : Nat) : Prop := i <= s.length
def znv (L : za8) : zbv := (95, fun xs => match xs with
 | [.str s] => some (L2 L upto 1000000000 s, .str (L zit s))
 | _ => none)
def yoy (L : za8) (s : List UInt8) : Nat -> St -> Option Ann := fun id st => match id with
 | 0 => some ⟨Nat, fun i => [(10, .int .i64 (L zbd i)), (3, .sl 900 1 0 (L lenN s)), (8, .sl 900 1 0 (L lenN s))], fun i => [(900, .row 5 1 (L lenN s) (fun k _ => .int .u8 (L3 L ycu s i k)))], [9], [], fun i => L2 L leN8 s i, fun i => L2 L toC s i⟩
 | _ => none
theorem zmh : zb6 Tryz.prog (znv std) := by
 intro xs p r h hp
 dsimp only [znv] at h |-
 split at h <;> cases h
 try simp only [L2, L3, std] at hp |-
 rename_i s
 have hz : s.length <= 1000000000 := hp
 refine za4 (T := tt) (S := fun L => noS L) (lo := fun L => yoy L s) (lb := noA) 5 (fn := Tryz.f95) (xs := fun L => [.str s]) rfl rfl (by kernel_rfl) (by kernel_rfl) rfl za9 (zbb _) (by kernel_rfl) ?_
 intro L P' Q' hL hP hQ
 (cbv; try simp only [syT, true_and, and_true])
 refine ⟨⟨0, ?_⟩, fun i hi => ?_⟩
 · (cbv; try simp only [syT, true_and, and_true])
   (subst hL; subst hQ; simp only [L2, L3, std] at *; try simp only [syS, reduceCtorEq, Int.reduceToNat, Int.reduceAdd, Int.reduceSub] at *)
   exact ⟨fun i j hi hj => by rw [ycu, if_neg (by omega)], Nat.zero_le _⟩
 · have hi2 : i <= s.length := by
     have h := hi
     rw [hL] at h
     exact h
   clear hi
   (cbv; try simp only [syT, true_and, and_true])
   have hc : L (L (L ycu s) i) (L (L Nat.add 0) (L Int.toNat (L zbd i))) = zad s i := by
     subst hL
     show ycu s i (0 + i) = _
     rw [Nat.zero_add, ycu, if_neg (by omega)]
   rw [hc]
   refine ⟨fun hlt => ⟨?_, fun h1 => ⟨fun h2 => ⟨?_, ?_, i + 1, ?_⟩, fun h2 => ⟨i + 1, ?_⟩⟩, fun h1 => ⟨i + 1, ?_⟩⟩, fun hge => ?_⟩
   · (subst hL; subst hQ; simp only [L2, L3, std] at *; try simp only [syS, reduceCtorEq, Int.reduceToNat, Int.reduceAdd, Int.reduceSub] at *)
     omega
   · (subst hL; subst hQ; simp only [L2, L3, std] at *; try simp only [syS, reduceCtorEq, Int.reduceToNat, Int.reduceAdd, Int.reduceSub] at *)
     omega
   · (subst hL; subst hQ; simp only [L2, L3, std] at *; try simp only [syS, reduceCtorEq, Int.reduceToNat, Int.reduceAdd, Int.reduceSub] at *)
     omega
   · (cbv; try simp only [syT, true_and, and_true])
     try simp only [hc]
     (subst hL; subst hQ; simp only [L2, L3, std] at *; try simp only [syS, reduceCtorEq, Int.reduceToNat, Int.reduceAdd, Int.reduceSub] at *)
     refine ⟨fun k j hk hj => ?_, by omega, by show i + 1 <= s.length; omega, by show s.length - (i + 1) + 1 <= s.length - i; omega⟩
     rw [ysr _ _ _ _ _ _ hj, zks]
     by_cases e : k = i
     · rw [if_pos e, if_pos e, yn3, if_pos ⟨h1, h2⟩]
       congr 1
       omega
     · rw [if_neg e, if_neg e]
   · (cbv; try simp only [syT, true_and, and_true])
     (subst hL; subst hQ; simp only [L2, L3, std] at *; try simp only [syS, reduceCtorEq, Int.reduceToNat, Int.reduceAdd, Int.reduceSub] at *)
     refine ⟨fun k j hk hj => ?_, by omega, by show i + 1 <= s.length; omega, by show s.length - (i + 1) + 1 <= s.length - i; omega⟩
     rw [zks]
     by_cases e : k = i
     · rw [if_pos e, yn3, if_neg (by omega), e, hc]
     · rw [if_neg e]
   · (cbv; try simp only [syT, true_and, and_true])
     (subst hL; subst hQ; simp only [L2, L3, std] at *; try simp only [syS, reduceCtorEq, Int.reduceToNat, Int.reduceAdd, Int.reduceSub] at *)
     refine ⟨fun k j hk hj => ?_, by omega, by show i + 1 <= s.length; omega, by show s.length - (i + 1) + 1 <= s.length - i; omega⟩
     rw [zks]
     by_cases e : k = i
     · rw [if_pos e, yn3, if_neg (by omega), e, hc]
     · rw [if_neg e]
   · subst hQ; subst hL
     have hge : ilt (i : Int) (s.length : Int) = false := hge
     rw [yai] at hge
     refine ⟨⟨by show 0 + s.length <= s.length; omega, fun k hk => ⟨_, rfl⟩⟩, ?_⟩
     rw [zo5]
     exact yeo (by omega)
end Sy
end Go.Proofs.YthppjaoicibeiaaGreatDoor
namespace Go.Proofs.YthppjaoicibeiaaGreatDoor
open Go Go.RowKit Go.Sort Go.Lib
set_option maxRecDepth 100000
set_option linter.unusedSimpArgs false
set_option linter.unusedVariables false
set_option maxHeartbeats 6400000 in
theorem ypn (u : Nat) (hu : u < 18446744073709551616) (w : World) (htab : Lib.TabIs Tryz.prog w "internal/strconv.uint64pow10" .u64 Lib.pow10Tab) :
   Calls Tryz.prog 178 #[.int .u64 u, .int .i64 10] w fun e w' => e = .returned (.string ⟨(Lib.decDigits u).toArray⟩) /\ Below w.heap.size w w' := by
 by_cases hs : u < 100
 · have hw : IntKind.i64.wrap (u : Int) = (u : Int) := by rw [IntKind.wrap_i64]; omega
   go_enter Tryz.func178, Tryz.ntmps178
   go_wp2_with (go_at_call 199; refine (Tryz.internal_strconv_small u hs _).mono ?_; rintro e w' ⟨rfl, rfl⟩)
   go_ret
   exact ⟨rfl, Below.refl _ _⟩
 · have hu1 : 1 <= u := by omega
   have hnd20 : Lib.nDigits u <= 20 := by have := Lib.numDigits_eq u hu1 hu; split at this <;> omega
   have hal : Tryz.prog.arrayLen 237 = 24 := by kernel_rfl
   have hsl1 : ∀ W, (Instr.sliceAt 237 (.pointer (some ⟨w.heap.size, 0, none⟩)) none (some (.int .i64 (Lib.nDigits u : Int))) none).run Tryz.prog W = .ok (.slice (some ⟨w.heap.size, 0, none⟩) (Lib.nDigits u) 24) W := fun W => by
     rw [run_sliceAt_array_h W 237 ⟨w.heap.size, 0, none⟩ (by simp [Program.arrayLen, Program.elem, Tryz.underlying237]) .i64 (Lib.nDigits u : Int) (by omega) (by rw [hal]; omega)]
     go_simp
     first | done | omega
   have hH0 := Lib.holds_zero0 w 237 (Lib.nDigits u) (by omega)
   have hfmt := Tryz.internal_strconv_formatBase10 w.heap.size 0 24 u (Array.replicate (Lib.nDigits u) 0) (w.alloc (.cells Lib.zeros24 237)) hH0 (by rw [Array.size_replicate]; exact Lib.lt_pow_nDigits u) hu (by rw [Array.size_replicate]; omega)
   rw [Array.size_replicate] at hfmt
   have HH0 := Lib.hid hH0
   clear hH0 hal
   go_enter Tryz.func178, Tryz.ntmps178
   go_wp2_with (first
     | (go_at_call 200; refine (Tryz.internal_strconv_numDigits u hu1 hu _ (Lib.tabIs_alloc htab _)).mono ?_; rintro e w' ⟨rfl, rfl⟩))
   refine hfmt.mono ?_
   rintro e w' ⟨rfl, k, v', dk, rfl, hF⟩
   have hcv : (convert 130 9 (.slice (some ⟨w.heap.size, 0, none⟩) (Lib.nDigits u) 24)).run Tryz.prog ((putRow (fun (b : UInt8) => Value.int .u8 (b.toNat : Int)) (w.alloc (.cells Lib.zeros24 237)) w.heap.size 0 dk).drewN k) = .ok (.string ⟨(Lib.decDigits u).toArray⟩) ((putRow (fun (b : UInt8) => Value.int .u8 (b.toNat : Int)) (w.alloc (.cells Lib.zeros24 237)) w.heap.size 0 dk).drewN k) := by
     have h := run_convert_bytes_back (P := Tryz.prog) ((putRow (fun (b : UInt8) => Value.int .u8 (b.toNat : Int)) (w.alloc (.cells Lib.zeros24 237)) w.heap.size 0 dk).drewN k) 130 9 5 ⟨w.heap.size, 0, none⟩ 24 (Lib.decDigits u) Tryz.underlying130 Tryz.underlying5 Tryz.underlying9 (fun j hj => by
       rw [Lib.row_is_numeral hF j hj, Lib.add_plain, World.cell?_drewN]
       exact cell?_putRow (fun (b : UInt8) => Value.int .u8 (b.toNat : Int)) _ w.heap.size 0 _ dk HH0.out (by rw [hF.size, Array.size_replicate]) j (by rw [hF.size]; rw [Lib.decDigits_length] at hj; exact hj))
     rw [Lib.decDigits_length] at h
     exact h
   go_wp2
   go_ret
   obtain ⟨os, eo⟩ := Lib.fin_at w (.cells Lib.zeros24 237) dk k 0
   refine ⟨rfl, ?_⟩
   have := Lib.below_grow w.heap.size w (Nat.le_refl _) k os
   rw [<- eo] at this
   exact this
theorem yl5 (u : Nat) (hu : u < 18446744073709551616) (w : World) (htab : Lib.TabIs Tryz.prog w "internal/strconv.uint64pow10" .u64 Lib.pow10Tab) :
   Calls Tryz.prog 138 #[.int .u64 u, .int .i64 10] w fun e w' => e = .returned (.string ⟨(Lib.decDigits u).toArray⟩) /\ Below w.heap.size w w' := by
 go_enter Tryz.func138, Tryz.ntmps138
 go_wp2_with (go_at_call 178; refine (ypn u hu _ htab).mono ?_; rintro e w' ⟨rfl, hw⟩)
 go_ret
 exact ⟨rfl, hw⟩
end Go.Proofs.YthppjaoicibeiaaGreatDoor
namespace Go.Proofs.YthppjaoicibeiaaGreatDoor
namespace Sy
open Go Go.RowKit
set_option maxRecDepth 100000
set_option linter.unusedSimpArgs false
set_option linter.unusedVariables false
theorem zg7 {P : Program} {f : FuncId} {fn : Func} {c : Code} {xs : List AV} {args : Array Value} {r : AV} (hf : P.funcs[f]? = some fn) (hb : fn.body = some c) (hn : (fn.name == "runtime.NumGoroutine") = false)
   (ha : ∀ h D vs, RL h D zar xs vs -> vs = args) (h : ∀ w, GOk w -> Calls P f args w fun e w' => ∃ v, e = .returned v /\ Below w.heap.size w w' /\ ∀ h D, R h D zar r v) : za7 P f xs r := by
 intro D w vs hD hxs hg
 have := ha _ _ _ hxs
 subst this
 unfold zfm
 rw [zck hf hn hb]
 refine (h w hg).mono ?_
 rintro e w' ⟨v, rfl, hw, hv⟩
 exact ⟨v, D, rfl, hw, fun _ h => h, fun b hb => .inl hb, hv _ _⟩
theorem yu3 {x y z : AV} {v u t : Value} (hx : zqj x v) (hy : zqj y u) (hz : zqj z t) : ∀ h D vs, RL h D zar [x, y, z] vs -> vs = #[v, u, t] := by
 intro h D vs ⟨hl, hr⟩
 obtain ⟨a, b, c, ha⟩ : ∃ a b c, vs.toList = [a, b, c] := by
   have hl : vs.toList.length = 3 := by simpa using hl.symm
   match vs.toList, hl with
   | [a, b, c], _ => exact ⟨a, b, c, rfl⟩
 have : vs = #[a, b, c] := by rw [<- Array.toArray_toList (xs := vs), ha]
 subst this
 rw [hx _ _ a (hr 0 x a rfl rfl), hy _ _ b (hr 1 y b rfl rfl), hz _ _ c (hr 2 z c rfl rfl)]
def zcw (n : Int) : List UInt8 := Lib.decDigits n.toNat
def zk3 (n : Int) : Prop := 0 <= n /\ n < 18446744073709551616
def yl4 (L : za8) : zbv := (138, fun xs => match xs with | [.int .u64 n, .int .i64 b] => some (L2 L (fun n b : Int => zk3 n /\ b = 10) n b, .str (L zcw n)) | _ => none)
theorem yfi : zb6 Tryz.prog (yl4 std) := by
 intro xs p r h hp
 dsimp only [yl4] at h |-
 split at h <;> cases h
 try simp only [L2, L3, std] at hp |-
 rename_i n b
 obtain ⟨⟨h0, h1⟩, h2⟩ : zk3 n /\ b = 10 := hp
 subst h2
 obtain ⟨u, rfl⟩ := zme h0
 refine zg7 (fn := Tryz.f138) rfl rfl (by kernel_rfl) (zx8 (zdu _ _) (zdu _ _)) (fun w hg => (yl5 u (by omega) w hg.2.1).mono ?_)
 rintro e w' ⟨rfl, hw⟩
 exact ⟨_, rfl, hw, fun h D => yd8 h D _ _⟩
def ydx (s : List UInt8) : Int := match Lib.parseUintB 64 s with | .ok u => u | .syntax => 0 | .range => 18446744073709551615
def ycr (s : List UInt8) : Bool := match Lib.parseUintB 64 s with | .ok _ => true | _ => false
def yji (L : za8) : zbv := (196, fun xs => match xs with | [.str s, .int .i64 b, .int .i64 z] => some (L3 L (fun (s : List UInt8) (b z : Int) => s.length <= 140737488355328 /\ b = 10 /\ z = 64) s b z, .tup [.int .u64 (L ydx s), .ifb (L ycr s)]) | _ => none)
theorem zy4 {x y : AV} {v u : Value} {h : Array Obj} {D : Nat -> Prop} (hx : R h D zar x v) (hy : R h D zar y u) : R h D zar (.tup [x, y]) (.tuple #[v, u]) := by
 refine .tup _ _ rfl ?_
 intro i z t hz ht
 match i with
 | 0 => simp at hz ht; subst hz ht; exact hx
 | 1 => simp at hz ht; subst hz ht; exact hy
 | i + 2 => simp at hz
theorem ydw : zb6 Tryz.prog (yji std) := by
 intro xs p r h hp
 dsimp only [yji] at h |-
 split at h <;> cases h
 try simp only [L2, L3, std] at hp |-
 rename_i s b z
 obtain ⟨h0, h1, h2⟩ : s.length <= 140737488355328 /\ b = 10 /\ z = 64 := hp
 subst h1; subst h2
 have hs : (⟨s.toArray⟩ : ByteArray).size = s.length := by show s.toArray.size = s.length; simp
 have hd : (⟨s.toArray⟩ : ByteArray).data.toList = s := rfl
 refine zg7 (fn := Tryz.f196) rfl rfl (by kernel_rfl) (yu3 (zcm _) (zdu _ _) (zdu _ _)) (fun w hg => ?_)
 obtain ⟨-, -, ⟨t2, p2, g2⟩, ⟨t3, p3, g3⟩, -⟩ := hg
 cases hq : Lib.parseUintB 64 s with
 | ok u =>
   refine (Tryz.strconv_ParseUint_10_at64_ok ⟨s.toArray⟩ (by rw [hs]; omega) u (by rw [hd]; exact hq) w).mono ?_
   rintro e w' ⟨rfl, hw⟩
   refine ⟨_, rfl, ?_, fun h D => zy4 ?_ ?_⟩
   · rcases hw with rfl | rfl
     · exact Below.refl _ _
     · exact Lib.bytesWorld_below _ _ _
   · show R h D zar (.int .u64 (ydx s)) _
     rw [ydx, hq]; exact .int _ _
   · show R h D zar (.ifb (ycr s)) _
     rw [ycr, hq]; exact .ifn
 | «syntax» =>
   refine (Tryz.strconv_ParseUint_10_at64_syntax_var ⟨s.toArray⟩ (by rw [hs]; omega) (by rw [hd]; exact hq) t2 p2 w g2).mono ?_
   rintro e w' ⟨N, rfl, hN, hc, hw⟩
   refine ⟨_, rfl, hw, fun h D => zy4 ?_ ?_⟩
   · show R h D zar (.int .u64 (ydx s)) _
     rw [ydx, hq]; exact .int _ _
   · show R h D zar (.ifb (ycr s)) _
     rw [ycr, hq]; exact .ifs _ _
 | range =>
   refine (Tryz.strconv_ParseUint_10_at64_range_var ⟨s.toArray⟩ (by rw [hs]; omega) (by rw [hd]; exact hq) t3 p3 w g3).mono ?_
   rintro e w' ⟨N, rfl, hN, hc, hw⟩
   refine ⟨_, rfl, hw, fun h D => zy4 ?_ ?_⟩
   · show R h D zar (.int .u64 (ydx s)) _
     rw [ydx, hq]; exact .int _ _
   · show R h D zar (.ifb (ycr s)) _
     rw [ycr, hq]; exact .ifs _ _
def zco (n : Int) : Prop := 0 <= n /\ n < 18446744073709551616
def zaw (n : Int) : List UInt8 := zde n.toNat
def zk9 (L : za8) : zbv := (170, fun xs => match xs with | [.int .u64 n] => some (L zco n, .str (L zaw n)) | _ => none)
theorem zif : zb6 Tryz.prog (zk9 std) := by
 intro xs p r h hp
 dsimp only [zk9] at h |-
 split at h <;> cases h
 try simp only [L2, L3, std] at hp |-
 rename_i n
 obtain ⟨h0, h1⟩ : zco n := hp
 obtain ⟨k, rfl⟩ := zme h0
 exact ze7 (fn := Tryz.f170) rfl rfl (by kernel_rfl) (yu4 (zdu _ _)) (fun h D => yd8 h D _ _) (fun w => zy9 k w (by omega))
theorem zx6 : za7 Tryz.prog 173 [] (.bool true) := by
 refine zae (T := tt) (S := fun L => zat [zk9 L, ydu L]) (lo := noA) (lb := noA) 5 (fn := Tryz.f173) rfl rfl (by kernel_rfl) (by kernel_rfl) rfl za9 (za3 ⟨zif, ztb, trivial⟩) (by kernel_rfl) ?_
 (intro L P1 Q1 hL hP hQ; cbv; subst hL; simp only [L2, L3, std, syT]; subst hQ)
 (simp only [syS, reduceCtorEq, Int.reduceToNat, Int.reduceAdd, Int.reduceSub])
 exact ⟨by unfold zco; omega, fun _ => ⟨by unfold yjh; omega, by decide +kernel⟩, by rw [zaw, show (300 : Int).toNat = 300 from rfl, zga (by decide), zb2 (by decide)]; rfl⟩
def tru (f : Nat) : zbv := (f, fun xs => match xs with | [] => some (True, .bool true) | _ => none)
theorem zca {P : Program} {f : Nat} (h : za7 P f [] (.bool true)) : zb6 P (tru f) := by
 intro xs p r h' hp
 match xs with
 | [] => cases h'; exact h
 | x :: xs => cases h'
theorem zn1 : za7 Tryz.prog 134 [] (.bool true) := by
 refine zae (T := tt) (S := fun L => zat [tru 173]) (lo := noA) (lb := noA) 5 (fn := Tryz.f134) rfl rfl (by kernel_rfl) (by kernel_rfl) rfl za9 (za3 ⟨zca zx6, trivial⟩) (by kernel_rfl) ?_
 (intro L P1 Q1 hL hP hQ; cbv; subst hL; simp only [L2, L3, std, syT]; subst hQ)
 (simp only [syS, reduceCtorEq, Int.reduceToNat, Int.reduceAdd, Int.reduceSub])
def isD (c : UInt8) : Bool := decide (48 <= c.toNat) && decide (c.toNat <= 57)
def dcS (a : Nat) (c : UInt8) : Nat := a * 10 + (c.toNat - 48)
def zly (a : Nat) (l : List UInt8) : Nat := l.foldl dcS a
theorem zjv (a : Nat) : zly a [] = a := by unfold zly; exact List.foldl_nil
theorem zhz (a : Nat) (c : UInt8) (r : List UInt8) : zly a (c :: r) = zly (a * 10 + (c.toNat - 48)) r := by unfold zly; exact List.foldl_cons ..
theorem zuj (l : List UInt8) (c : UInt8) (a : Nat) : zly a (l ++ [c]) = zly a l * 10 + (c.toNat - 48) := by
 unfold zly
 rw [List.foldl_append, List.foldl_cons, List.foldl_nil, dcS]
theorem zs9 : ∀ (l : List UInt8) (a : Nat), a <= zly a l
 | [], a => by rw [zjv]; exact Nat.le_refl _
 | c :: r, a => by rw [zhz]; exact Nat.le_trans (by omega) (zs9 r _)
theorem zh5 {c : UInt8} : isD c = true ↔ 48 <= c.toNat /\ c.toNat <= 57 := by
 simp [isD]
theorem yh4 : ∀ (l : List UInt8) (a : Nat), l.all isD = true -> a < 18446744073709551616 -> Lib.parseUintM 18446744073709551615 a l = if zly a l < 18446744073709551616 then .ok (zly a l) else .range
 | [], a, _, ha => by
   rw [zjv, if_pos ha, Lib.parseUintM]
 | c :: r, a, h, ha => by
   rw [List.all_cons, Bool.and_eq_true] at h
   obtain ⟨h1, h2⟩ := h
   rw [zh5] at h1
   rw [Lib.parseUintM, if_pos h1, zhz]
   have hge := zs9 r (a * 10 + (c.toNat - 48))
   split
   · rw [if_neg (by omega)]
   · split
     · rw [if_neg (by omega)]
     · exact yh4 r _ h2 (by omega)
theorem yjj {l : List UInt8} (h : l.all isD = true) (h0 : l ≠ []) : Lib.parseUintB 64 l = if zly 0 l < 18446744073709551616 then .ok (zly 0 l) else .range := by
 rw [Lib.parseUintB, if_neg h0]
 exact yh4 l 0 h (by decide)
def zrf (s : List UInt8) : Bool := s.all isD && !(s == []) && (!(zie s 0 == 48) || s == [48])
def zqn (s : List UInt8) : Int := if zrf s = true then (if zly 0 s < 18446744073709551616 then 0 else 7) else 4
def wnV (s : List UInt8) : Int := if zqn s = 0 then zly 0 s else 0
def yfu (L : za8) : zbv := (87, fun xs => match xs with | [.int .u64 n] => some (L zk3 n, .str (L zcw n)) | _ => none)
theorem zui : zb6 Tryz.prog (yfu std) := by
 intro xs p r h hp
 dsimp only [yfu] at h |-
 split at h <;> cases h
 try simp only [L2, L3, std] at hp |-
 rename_i n
 have hn : zk3 n := hp
 refine zae (T := tt) (S := fun L => zat [yl4 L]) (lo := noA) (lb := noA) 5 (fn := Tryz.f87) rfl rfl (by kernel_rfl) (by kernel_rfl) rfl za9 (za3 ⟨yfi, trivial⟩) (by kernel_rfl) ?_
 (intro L P1 Q1 hL hP hQ; cbv; subst hL; simp only [L2, L3, std, syT]; subst hQ)
 refine ⟨⟨hn, trivial⟩, ?_⟩
 rw [zo5]
def ye5 (s : List UInt8) (i : Nat) : Prop := i <= s.length /\ (s.take i).all isD = true
theorem yl6 (a b c d : Int) : zhx (.tup [.int .u64 a, .int .i64 b]) (.tup [.int .u64 c, .int .i64 d]) = (c = a /\ d = b) := by
 simp [sySet]
theorem zno {s : List UInt8} (h : zrf s = false) : 0 = wnV s /\ 4 = zqn s := by
 have e : zqn s = 4 := by rw [zqn, if_neg (by rw [h]; decide)]
 exact ⟨by rw [wnV, if_neg (by rw [e]; decide)], e.symm⟩
theorem zzm {s : List UInt8} {i : Nat} (hi : i < s.length) (h : zie s (zbd i) < 48 \/ 57 < zie s (zbd i)) : zrf s = false := by
 have : s.all isD = false := by
   rw [List.all_eq_false]
   refine ⟨s[i], List.getElem_mem hi, ?_⟩
   rw [zh5]
   rw [zie, zbd, Int.toNat_natCast, List.getD_eq_getElem?_getD, List.getElem?_eq_getElem hi, Option.getD_some] at h
   omega
 rw [zrf, this]; rfl
theorem yjw {s : List UInt8} {i i' : Nat} (hi' : i' = i + 1) (h : ye5 s i) (hi : i < s.length) (h1 : ¬ zie s (zbd i) < 48) (h2 : ¬ 57 < zie s (zbd i)) : ye5 s i' := by
 subst hi'
 refine ⟨hi, ?_⟩
 rw [List.take_succ_eq_append_getElem hi, List.all_append, h.2, List.all_cons, List.all_nil]
 rw [zie, zbd, Int.toNat_natCast, List.getD_eq_getElem?_getD, List.getElem?_eq_getElem hi, Option.getD_some] at h1 h2
 have : isD s[i] = true := zh5.2 (by omega)
 rw [this]; rfl
theorem ztj {s : List UInt8} {i : Nat} (h : ye5 s i) (hi : ¬ i < s.length) : s.all isD = true := by
 have := h.2
 rw [List.take_of_length_le (by omega)] at this
 exact this
theorem zjm {s : List UInt8} (h : s.all isD = true) (h0 : s ≠ []) (h1 : zie s 0 ≠ 48 \/ s = [48]) : ((!ycr s) = true -> 0 = wnV s /\ 7 = zqn s) /\ ((!ycr s) = false -> ydx s = wnV s /\ 0 = zqn s) := by
 have ho : zrf s = true := by
   rw [zrf, h]
   rcases h1 with h1 | h1
   · simp [h0, h1]
   · subst h1; rfl
 have hB := yjj h h0
 rw [wnV, zqn, if_pos ho, ycr, ydx, hB]
 by_cases hl : zly 0 s < 18446744073709551616
 · rw [if_pos hl, if_pos hl]
   exact ⟨fun h => by simp at h, fun _ => ⟨rfl, rfl⟩⟩
 · rw [if_neg hl, if_neg hl]
   exact ⟨fun _ => ⟨rfl, rfl⟩, fun h => by simp at h⟩
def nuA (L : za8) (s : List UInt8) : Nat -> St -> Option Ann := fun id st => match id with
 | 0 => some ⟨Nat, fun i => [(9, .int .i64 (L zbd i))], fun _ => [], [0, 8], [], fun i => L2 L ye5 s i, fun i => L2 L (fun (s : List UInt8) (i : Nat) => s.length - i) s i⟩
 | _ => none
def zxs (L : za8) : zbv := (172, fun xs => match xs with | [.str s] => some (L2 L upto 1000000 s, .tup [.int .u64 (L wnV s), .int .i64 (L zqn s)]) | _ => none)
theorem zfz {n k : Nat} (h : ilt (zbd n) (zbd k) = true) : n < k := by
 have := of_decide_eq_true h
 unfold zbd at this; omega
theorem zhv {n k : Nat} (h : ilt (zbd n) (zbd k) = false) : ¬ n < k := by
 have := of_decide_eq_false h
 unfold zbd at this; omega
theorem yaf {n k : Nat} (h : n < k) : inR (zbd n) (zbd k) = true := by rw [ykl]; exact ⟨Int.natCast_nonneg _, by unfold zbd; omega⟩
theorem yeb {n n' : Nat} (h : n' = n + 1) (h2 : n < 100000000) : yr1 .i64 (zbd n) 1 = zbd n' := by
 subst h; unfold zbd; rw [yr1, zxy]; omega
theorem zpa {s : List UInt8} (h : seq s [] = false) : s ≠ [] := by
 intro e; subst e; exact absurd h (by decide)
theorem yon {s : List UInt8} (h : seq s [] = true) : zrf s = false := by
 have : s = [] := by simpa [seq] using h
 subst this; rfl
theorem yok {s : List UInt8} (h : seq s [] = false) : inR 0 (slen s) = true := by
 have := zpa h
 rw [ykl, slen]
 have : 0 < s.length := List.length_pos_iff.2 this
 omega
theorem yoj {s : List UInt8} (h : (!seq s [48]) = false) : s = [48] := by
 have : seq s [48] = true := by simpa using h
 simpa [seq] using this
theorem yh7 {s : List UInt8} (h : ieq (zie s 0) 48 = false) : zie s 0 ≠ 48 := by
 simpa [ieq] using h
theorem yom {s : List UInt8} (h : ieq (zie s 0) 48 = true) (h2 : (!seq s [48]) = true) : zrf s = false := by
 have h1 : zie s 0 = 48 := by simpa [ieq] using h
 have h3 : ¬ s = [48] := by
   intro e; subst e; exact absurd h2 (by decide)
 rw [zrf, h1]
 simp [h3]
theorem zxt : zb6 Tryz.prog (zxs std) := by
 intro xs p r h hp
 dsimp only [zxs] at h |-
 split at h <;> cases h
 try simp only [L2, L3, std] at hp |-
 rename_i s
 have hs : s.length <= 1000000 := hp
 refine zae (T := tt) (S := fun L => zat [yji L]) (lo := fun L => nuA L s) (lb := noA) 5 (fn := Tryz.f172) rfl rfl (by kernel_rfl) (by kernel_rfl) rfl za9 (za3 ⟨ydw, trivial⟩) (by kernel_rfl) ?_
 obtain ⟨n0, hn0⟩ : ∃ n : Nat, n = 0 := ⟨_, rfl⟩
 intro L P' Q' hL hP hQ
 (cbv; try simp only [syT, true_and, and_true])
 refine ⟨⟨n0, ?_⟩, fun i hi => ?_⟩
 · (cbv; try simp only [syT, true_and, and_true])
   subst hL; subst hQ; subst hn0
   exact ⟨rfl, Nat.zero_le _, by rw [List.take_zero]; rfl⟩
 obtain ⟨i', hi'⟩ : ∃ i' : Nat, i' = i + 1 := ⟨_, rfl⟩
 (cbv; try simp only [syT, true_and, and_true])
 refine ⟨fun h1 => ⟨?_, fun h2 => ?_, fun h2 => ⟨?_, fun h3 => ?_, fun h3 => ⟨i', ?_⟩⟩⟩, fun h1 => ⟨fun h2 => ?_, fun h2 => ⟨?_, fun h3 => ⟨fun h4 => ?_, fun h4 => ⟨?_, fun h5 => ?_, fun h5 => ?_⟩⟩, fun h3 => ⟨?_, fun h5 => ?_, fun h5 => ?_⟩⟩⟩⟩
 all_goals (try (cbv; try simp only [syT, true_and, and_true]))
 all_goals (subst hL; subst hQ)
 all_goals (try rw [yl6])
 · exact yaf (k := s.length) (zfz h1)
 · exact zno (zzm (zfz (k := s.length) h1) (.inl (of_decide_eq_true h2)))
 · exact yaf (k := s.length) (zfz h1)
 · exact zno (zzm (zfz (k := s.length) h1) (.inr (of_decide_eq_true h3)))
 · have hlt : i < s.length := zfz (k := s.length) h1
   refine ⟨yeb hi' (by omega), yjw hi' hi hlt (of_decide_eq_false h2) (of_decide_eq_false h3), ?_⟩
   show s.length - i' + 1 <= s.length - i
   omega
 · exact zno (yon h2)
 · exact yok h2
 · exact zno (yom h3 h4)
 · exact ⟨by omega, rfl, rfl⟩
 · exact (zjm (ztj hi (zhv (k := s.length) h1)) (zpa h2) (.inr (yoj h4))).1 h5
 · exact (zjm (ztj hi (zhv (k := s.length) h1)) (zpa h2) (.inr (yoj h4))).2 h5
 · exact ⟨by omega, rfl, rfl⟩
 · exact (zjm (ztj hi (zhv (k := s.length) h1)) (zpa h2) (.inl (yh7 h3))).1 h5
 · exact (zjm (ztj hi (zhv (k := s.length) h1)) (zpa h2) (.inl (yh7 h3))).2 h5
theorem zy2 {N : Nat} (h : (N : Int) < 18446744073709551616) : N < 18446744073709551616 := by omega
theorem yq7 {n : Nat} (h : n < 10) : (UInt8.ofNat (48 + n)).toNat = 48 + n := by
 rw [UInt8.toNat_ofNat']; omega
theorem yho (u : Nat) : (Lib.decDigits u).all isD = true /\ Lib.decDigits u ≠ [] /\ zly 0 (Lib.decDigits u) = u /\ (1 <= u -> zie (Lib.decDigits u) 0 ≠ 48) := by
 induction u using Nat.strongRecOn with
 | _ u ih =>
   by_cases h : u < 10
   · rw [Lib.decDigits_one h]
     have hc := yq7 h
     refine ⟨?_, by simp, ?_, fun h1 => ?_⟩
     · rw [List.all_cons, List.all_nil, Bool.and_true, zh5, hc]; omega
     · rw [zhz, zjv, hc]; omega
     · show ((UInt8.ofNat (48 + u)).toNat : Int) ≠ 48
       rw [hc]; omega
   · obtain ⟨a1, a2, a3, a4⟩ := ih (u / 10) (by omega)
     have hc := yq7 (show u % 10 < 10 by omega)
     rw [Lib.decDigits, dif_neg h]
     refine ⟨?_, by simp, ?_, fun _ => ?_⟩
     · rw [List.all_append, a1, List.all_cons, List.all_nil, Bool.and_true, Bool.true_and, zh5, hc]; omega
     · rw [zuj, a3, hc]; omega
     · have := a4 (by omega)
       have h0 : 0 < (Lib.decDigits (u / 10)).length := List.length_pos_iff.2 a2
       rw [zie, List.getD_eq_getElem?_getD] at this |-
       rw [List.getElem?_append_left (by simpa using h0)]
       exact this
theorem zeu {n : Int} (h : zk3 n) : zqn (zcw n) = 0 /\ wnV (zcw n) = n := by
 obtain ⟨u, rfl⟩ := zme h.1
 have hu : u < 18446744073709551616 := zy2 h.2
 obtain ⟨a1, a2, a3, a4⟩ := yho u
 have ho : zrf (zcw (u : Int)) = true := by
   rw [zcw, Int.toNat_natCast, zrf, a1]
   by_cases h0 : 1 <= u
   · simp [a2, a4 h0]
   · have : u = 0 := by omega
     subst this
     rw [Lib.decDigits_one (by decide)]; rfl
 have e : zqn (zcw (u : Int)) = 0 := by
   rw [zqn, if_pos ho, zcw, Int.toNat_natCast, a3, if_pos hu]
 refine ⟨e, ?_⟩
 rw [wnV, if_pos e, zcw, Int.toNat_natCast, a3]
theorem yhn : ∀ (n : Nat) (s : List UInt8), s.length = n -> s.all isD = true -> s ≠ [] -> (zie s 0 ≠ 48 \/ s = [48]) -> Lib.decDigits (zly 0 s) = s
 | 0, s, hl, _, h0, _ => absurd (List.eq_nil_of_length_eq_zero hl) h0
 | n + 1, s, hl, ha, h0, hz => by
   obtain ⟨t, c, rfl⟩ : ∃ t c, s = t ++ [c] := ⟨s.dropLast, s.getLast h0, (List.dropLast_concat_getLast h0).symm⟩
   rw [List.all_append, List.all_cons, List.all_nil, Bool.and_true, Bool.and_eq_true] at ha
   obtain ⟨ht, hc⟩ := ha
   rw [zh5] at hc
   rw [zuj]
   have back : UInt8.ofNat (48 + (c.toNat - 48)) = c := by
     apply UInt8.toNat_inj.1
     rw [UInt8.toNat_ofNat']
     have := c.toNat_lt
     omega
   by_cases htn : t = []
   · subst htn
     rw [zjv, Nat.zero_mul, Nat.zero_add, Lib.decDigits_one (by omega), back]; rfl
   · have hlt : t.length = n := by simpa using hl
     obtain ⟨x, r, rfl⟩ := List.exists_cons_of_ne_nil htn
     have hx : zie (x :: r) 0 ≠ 48 := by
       rcases hz with hz | hz
       · exact hz
       · have := congrArg List.length hz
         simp at this
     have h1 : 1 <= zly 0 (x :: r) := by
       rw [zhz]
       refine Nat.le_trans ?_ (zs9 r _)
       rw [List.all_cons, Bool.and_eq_true, zh5] at ht
       have : x.toNat ≠ 48 := fun e => hx (by show ((x.toNat : Nat) : Int) = 48; omega)
       omega
     have ih := yhn n (x :: r) hlt ht htn (.inl hx)
     generalize zly 0 (x :: r) = v at h1 ih |-
     rw [Lib.decDigits, dif_neg (by omega), show (v * 10 + (c.toNat - 48)) / 10 = v by omega, show (v * 10 + (c.toNat - 48)) % 10 = c.toNat - 48 by omega, ih, back]
theorem ysw {s : List UInt8} (h : zrf s = true) : s.all isD = true /\ s ≠ [] /\ (zie s 0 ≠ 48 \/ s = [48]) := by
 simp only [zrf, Bool.and_eq_true, Bool.not_eq_true', Bool.or_eq_true, beq_iff_eq, beq_eq_false_iff_ne, ne_eq] at h
 exact ⟨h.1.1, h.1.2, h.2⟩
theorem zgl {s : List UInt8} (h : zqn s = 0) : zcw (wnV s) = s /\ zk3 (wnV s) := by
 have ho : zrf s = true := by
   cases hq : zrf s with
   | true => rfl
   | false => rw [zqn, hq, if_neg (by decide)] at h; exact absurd h (by decide)
 have hl : zly 0 s < 18446744073709551616 := by
   rw [zqn, if_pos ho] at h
   split at h
   · assumption
   · exact absurd h (by decide)
 obtain ⟨h1, h2, h3⟩ := ysw ho
 rw [wnV, if_pos h, zcw, Int.toNat_natCast, yhn _ s rfl h1 h2 h3]
 exact ⟨rfl, by unfold zk3; omega⟩
theorem zl9 {n : Int} (h : zk3 n) : (zcw n).length <= 20 := by
 obtain ⟨u, rfl⟩ := zme h.1
 have hu : u < 18446744073709551616 := zy2 h.2
 rw [zcw, Int.toNat_natCast, Lib.decDigits_length]
 by_cases h0 : u = 0
 · subst h0; rw [Lib.nDigits_small (by decide)]; decide
 · have := Lib.numDigits_eq u (by omega) hu
   split at this <;> omega
structure Pl where
 a : Int
 b : Int
 c : Int
 d : Int
 p : Int
 deriving DecidableEq
def plA (L : za8) (x : Pl) : AV := .agg [.int .u8 (L Pl.a x), .int .u8 (L Pl.b x), .int .u8 (L Pl.c x), .int .u8 (L Pl.d x), .int .u16 (L Pl.p x)]
def zw4 (L : za8) (a b c d p : Int) : Pl := L (L (L (L (L Pl.mk a) b) c) d) p
def zvx (x : Pl) : Prop := (0 <= x.a /\ x.a <= 255) /\ (0 <= x.b /\ x.b <= 255) /\ (0 <= x.c /\ x.c <= 255) /\ (0 <= x.d /\ x.d <= 255) /\ 0 <= x.p /\ x.p <= 65535
def ub (n : Int) : UInt8 := UInt8.ofNat n.toNat
def plB (x : Pl) : List UInt8 := [ub x.a, ub x.b, ub x.c, ub x.d, ub (x.p / 256), ub (x.p % 256)]
def plT (x : Pl) : List UInt8 := zcw x.a ++ 46 :: (zcw x.b ++ 46 :: (zcw x.c ++ 46 :: (zcw x.d ++ 58 :: zcw x.p)))
def zft (x : Pl) : Bool := decide (x.a = 0) && (decide (x.b = 0) && (decide (x.c = 0) && decide (x.d = 0)))
def zma (x y : Pl) : Bool := decide (x.p = y.p) && (decide (x.a = y.a /\ x.b = y.b /\ x.c = y.c /\ x.d = y.d) || (zft x || zft y))
theorem ynm (n : Nat) : UInt8.ofNat n = UInt8.ofNat (n % 256) := by
 apply UInt8.toNat_inj.1
 rw [UInt8.toNat_ofNat', UInt8.toNat_ofNat']; omega
theorem ysm {p : Int} (h0 : 0 <= p) (h1 : p <= 65535) : putZ p 2 = [ub (p / 256), ub (p % 256)] := by
 obtain ⟨n, rfl⟩ := zme h0
 show zr3 n 2 = _
 rw [zr3, zr3, zr3, Nat.pow_one, Nat.pow_zero, Nat.div_one, ynm n]
 show _ = [UInt8.ofNat ((n : Int) / 256).toNat, UInt8.ofNat ((n : Int) % 256).toNat]
 rw [show ((n : Int) / 256).toNat = n / 256 by omega, show ((n : Int) % 256).toNat = n % 256 by omega]
def zof (L : za8) : zbv := (115, fun xs => match xs with
 | [.agg [.int .u8 a, .int .u8 b, .int .u8 c, .int .u8 d, .int .u16 p]] => some (L zvx (zw4 L a b c d p), .str (L plB (zw4 L a b c d p)))
 | _ => none)
theorem zms : zb6 Tryz.prog (zof std) := by
 intro xs p r h hp
 dsimp only [zof] at h |-
 split at h <;> cases h
 try simp only [L2, L3, std] at hp |-
 rename_i a b c d p
 have hp : zvx ⟨a, b, c, d, p⟩ := hp
 refine zae (T := tt) (S := fun L => zat [ydu L]) (lo := noA) (lb := noA) 5 (fn := Tryz.f115) rfl rfl (by kernel_rfl) (by kernel_rfl) rfl za9 (za3 ⟨ztb, trivial⟩) (by kernel_rfl) ?_
 (intro L P1 Q1 hL hP hQ; cbv; subst hL; simp only [L2, L3, std, syT]; subst hQ)
 (simp only [syS, reduceCtorEq, Int.reduceToNat, Int.reduceAdd, Int.reduceSub])
 obtain ⟨-, -, -, -, h1, h2⟩ := hp
 simp only at h1 h2
 have h2 : p <= 65535 := h2
 rw [show p % 18446744073709551616 = p by omega, ysm h1 h2]
 exact ⟨fun i _ => ⟨_, rfl⟩, ⟨by omega, by omega, by decide, by decide⟩, by simp [zbf], rfl⟩
def yga (L : za8) : zbv := (98, fun xs => match xs with
 | [.agg [.int .u8 a, .int .u8 b, .int .u8 c, .int .u8 d, .int .u16 p]] => some (True, .bool (L zft (zw4 L a b c d p)))
 | _ => none)
theorem zut : zb6 Tryz.prog (yga std) := by
 intro xs p r h hp
 dsimp only [yga] at h |-
 split at h <;> cases h
 try simp only [L2, L3, std] at hp |-
 rename_i a b c d p
 refine zae (T := tt) (S := noS) (lo := noA) (lb := noA) 5 (fn := Tryz.f98) rfl rfl (by kernel_rfl) (by kernel_rfl) rfl za9 (zbb _) (by kernel_rfl) ?_
 (intro L P1 Q1 hL hP hQ; cbv; subst hL; simp only [L2, L3, std, syT]; subst hQ)
 (simp only [syS, reduceCtorEq, Int.reduceToNat, Int.reduceAdd, Int.reduceSub])
 show _ = (decide (a = 0) && (decide (b = 0) && (decide (c = 0) && decide (d = 0))))
 simp [ieq, Bool.beq_eq_decide_eq]
def zzv (L : za8) : zbv := (89, fun xs => match xs with
 | [.agg [.int .u8 a, .int .u8 b, .int .u8 c, .int .u8 d, .int .u16 p], .agg [.int .u8 e, .int .u8 f, .int .u8 g, .int .u8 h, .int .u16 q]] => some (True, .bool (L2 L zma (zw4 L a b c d p) (zw4 L e f g h q)))
 | _ => none)
theorem zzw : zb6 Tryz.prog (zzv std) := by
 intro xs p r h hp
 dsimp only [zzv] at h |-
 split at h <;> cases h
 try simp only [L2, L3, std] at hp |-
 rename_i a b c d p e f g h q
 refine zae (T := tt) (S := fun L => zat [yga L]) (lo := noA) (lb := noA) 5 (fn := Tryz.f89) rfl rfl (by kernel_rfl) (by kernel_rfl) rfl za9 (za3 ⟨zut, trivial⟩) (by kernel_rfl) ?_
 (intro L P1 Q1 hL hP hQ; cbv; subst hL; simp only [L2, L3, std, syT]; subst hQ)
 (simp only [syS, reduceCtorEq, Int.reduceToNat, Int.reduceAdd, Int.reduceSub])
 show (_ -> (_ -> true = (decide (p = q) && (decide (a = e /\ b = f /\ c = g /\ d = h) || (zft ⟨a, b, c, d, p⟩ || zft ⟨e, f, g, h, q⟩)))) /\ (_ -> (zft ⟨a, b, c, d, p⟩ = true -> true = (decide (p = q) && (decide (a = e /\ b = f /\ c = g /\ d = h) || (zft ⟨a, b, c, d, p⟩ || zft ⟨e, f, g, h, q⟩)))) /\
   (zft ⟨a, b, c, d, p⟩ = false -> zft ⟨e, f, g, h, q⟩ = (decide (p = q) && (decide (a = e /\ b = f /\ c = g /\ d = h) || (zft ⟨a, b, c, d, p⟩ || zft ⟨e, f, g, h, q⟩)))))) /\ (_ -> false = (decide (p = q) && (decide (a = e /\ b = f /\ c = g /\ d = h) || (zft ⟨a, b, c, d, p⟩ || zft ⟨e, f, g, h, q⟩))))
 refine ⟨fun h1 => ⟨fun h2 => ?_, fun h2 => ⟨fun h3 => ?_, fun h3 => ?_⟩⟩, fun h1 => ?_⟩
 · simp [h1, h2]
 · subst h1
   rw [h3]; simp
 · have h2 : ¬ (a = e /\ b = f /\ c = g /\ d = h) := fun x => h2 x.1 x.2.1 x.2.2.1 x.2.2.2
   rw [decide_eq_true h1, decide_eq_false h2, h3]; rfl
 · simp [h1]
def ipL (x : Pl) : List Int := [x.a, x.b, x.c, x.d]
def ipT (x : Pl) (j : Nat) : List UInt8 := zcw (zdc (ipL x) j)
def le4s (i : Nat) : Prop := i <= 4
def to4 (i : Nat) : Nat := 4 - i
def txtA (L : za8) (x : Pl) : Nat -> St -> Option Ann := fun id st => match id with
 | 0 => some ⟨Nat, fun i => [(8, .int .i64 (L zbd i)), (3, .sl 900 1 0 i)], fun i => [(900, .row 9 1 i (fun j _ => .str (L2 L ipT x j)))], [1, 7], [1], fun i => L le4s i, fun i => L to4 i⟩
 | _ => none
theorem zwd {x : Pl} (h : zvx x) (j : Nat) : zk3 (zdc (ipL x) j) := by
 obtain ⟨h1, h2, h3, h4, -⟩ := h
 match j with
 | 0 => exact ⟨h1.1, by have := h1.2; show x.a < _; omega⟩
 | 1 => exact ⟨h2.1, by have := h2.2; show x.b < _; omega⟩
 | 2 => exact ⟨h3.1, by have := h3.2; show x.c < _; omega⟩
 | 3 => exact ⟨h4.1, by have := h4.2; show x.d < _; omega⟩
 | j + 4 => exact ⟨Int.le_refl 0, (by decide : (0 : Int) < 18446744073709551616)⟩
theorem yt5 (x : Pl) : Lib.join [zcw x.a, zcw x.b, zcw x.c, zcw x.d] [46] = zcw x.a ++ 46 :: (zcw x.b ++ 46 :: (zcw x.c ++ 46 :: zcw x.d)) := by
 simp [Lib.join, List.intercalate]
def zr5 (L : za8) : zbv := (135, fun xs => match xs with
 | [.agg [.int .u8 a, .int .u8 b, .int .u8 c, .int .u8 d, .int .u16 p]] => some (L zvx (zw4 L a b c d p), .str (L plT (zw4 L a b c d p)))
 | _ => none)
theorem zvt : zb6 Tryz.prog (zr5 std) := by
 intro xs p r h hp
 dsimp only [zr5] at h |-
 split at h <;> cases h
 try simp only [L2, L3, std] at hp |-
 rename_i a b c d p
 have hp : zvx ⟨a, b, c, d, p⟩ := hp
 refine zae (T := tt) (S := fun L => zat [yfu L, yrg L]) (lo := fun L => txtA L ⟨a, b, c, d, p⟩) (lb := noA) 5 (fn := Tryz.f135) rfl rfl (by kernel_rfl) (by kernel_rfl) rfl za9 (za3 ⟨zui, ya9, trivial⟩) (by kernel_rfl) ?_
 intro L P' Q' hL hP hQ
 (cbv; try simp only [syT, true_and, and_true])
 refine ⟨⟨0, ?_⟩, fun i hi => ?_⟩
 · (cbv; try simp only [syT, true_and, and_true])
   (subst hL; subst hQ; simp only [L2, L3, std] at *; try simp only [syS, reduceCtorEq, Int.reduceToNat, Int.reduceAdd, Int.reduceSub] at *)
   exact Nat.zero_le _
 · (cbv; try simp only [syT, true_and, and_true])
   have hi4 : i <= 4 := by
     have hi' := hi
     rw [hL] at hi'
     exact hi'
   refine ⟨fun h1 => ⟨?_, ?_, ?_, i + 1, ?_⟩, fun h1 => ⟨?_, ?_, ?_, ?_, ?_⟩⟩
   · (subst hL; subst hQ; simp only [L2, L3, std] at *; try simp only [syS, reduceCtorEq, Int.reduceToNat, Int.reduceAdd, Int.reduceSub] at *)
     omega
   · (subst hL; subst hQ; simp only [L2, L3, std] at *; try simp only [syS, reduceCtorEq, Int.reduceToNat, Int.reduceAdd, Int.reduceSub] at *)
     have := zwd hp i
     show zk3 (_ % _)
     rw [show zdc [a, b, c, d] i % 18446744073709551616 = zdc (ipL ⟨a, b, c, d, p⟩) i from Int.emod_eq_of_lt this.1 this.2]
     exact this
   · (subst hL; subst hQ; simp only [L2, L3, std] at *; try simp only [syS, reduceCtorEq, Int.reduceToNat, Int.reduceAdd, Int.reduceSub] at *)
     omega
   · (cbv; try simp only [syT, true_and, and_true])
     (subst hL; subst hQ; simp only [L2, L3, std] at *; try simp only [syS, reduceCtorEq, Int.reduceToNat, Int.reduceAdd, Int.reduceSub] at *)
     refine ⟨fun k j hk hj => ?_, by omega, by show i + 1 <= 4; omega, by show 4 - (i + 1) + 1 <= 4 - i; omega⟩
     by_cases hk' : k < i
     · rw [zlf hk', show k - i = 0 by omega]; rfl
     · have : k = i := by omega
       subst this
       rw [zoh (by omega), show k - k = 0 by omega]
       match j, hj with
       | 0, _ =>
         have := zwd hp k
         show AV.str (zcw (zdc [a, b, c, d] k % 18446744073709551616)) = .str (zcw (zdc (ipL ⟨a, b, c, d, p⟩) k))
         rw [show zdc [a, b, c, d] k % 18446744073709551616 = zdc (ipL ⟨a, b, c, d, p⟩) k from Int.emod_eq_of_lt this.1 this.2]
   all_goals
     (subst hL; subst hQ; simp only [L2, L3, std] at *; try simp only [syS, reduceCtorEq, Int.reduceToNat, Int.reduceAdd, Int.reduceSub] at *)
     have h4 : i = 4 := by omega
     subst h4
     have l1 := zl9 (zwd hp 0)
     have l2 := zl9 (zwd hp 1)
     have l3 := zl9 (zwd hp 2)
     have l4 := zl9 (zwd hp 3)
     have hp5 : 0 <= p /\ p <= 65535 := hp.2.2.2.2
     have l5 := zl9 (n := p) ⟨hp5.1, by omega⟩
     have hj : jnZ [46] (.lst 1 4 fun i x => AV.str (ipT ⟨a, b, c, d, p⟩ i)) = zcw a ++ 46 :: (zcw b ++ 46 :: (zcw c ++ 46 :: zcw d)) := yt5 ⟨a, b, c, d, p⟩
     have hm : p % 18446744073709551616 = p := by omega
     simp only [zdc, ipL, List.getD_cons_zero, List.getD_cons_succ] at l1 l2 l3 l4
     have hl : (zcw a ++ 46 :: (zcw b ++ 46 :: (zcw c ++ 46 :: zcw d))).length <= 100 := by
       simp only [List.length_append, List.length_cons]; omega
   · refine ⟨fun k hk => ⟨_, rfl⟩, by omega, ?_⟩
     have : Lib.join (zcd 4 fun i x => AV.str (ipT ⟨a, b, c, d, p⟩ i)) [46] = zcw a ++ 46 :: (zcw b ++ 46 :: (zcw c ++ 46 :: zcw d)) := hj
     rw [this]; omega
   · rw [hj, List.length_singleton]; omega
   · rw [hm]; exact ⟨hp5.1, by omega⟩
   · rw [hj, hm, List.length_append, List.length_singleton]; omega
   · rw [hj, hm]
     show _ = plT ⟨a, b, c, d, p⟩
     simp [plT]
theorem yh5 {x : Pl} {a b c d p : Int} (h : x = ⟨a, b, c, d, p⟩) : fits1 (plA std x) (.agg [.int .u8 a, .int .u8 b, .int .u8 c, .int .u8 d, .int .u16 p]) := by
 subst h
 show fits1 (.agg [.int .u8 a, .int .u8 b, .int .u8 c, .int .u8 d, .int .u16 p]) _
 simp only [zd6, zci, and_self]
def zo3 (s : List UInt8) : List (List UInt8) := zbg (yfy s [58]) [46]
def zr8 (s : List UInt8) : List UInt8 := ybl s [58]
def zlr (s : List UInt8) (k : Nat) : Int := wnV (ze8 (zo3 s) k)
def ycq (s : List UInt8) (k : Nat) : Int := zqn (ze8 (zo3 s) k)
def prtO (s : List UInt8) (k : Nat) : Prop := ycq s k = 0 /\ zlr s k <= 255
def yr6 (s : List UInt8) : Prop := yq9 s [58] = true /\ (zo3 s).length = 4 /\ (∀ k, k < 4 -> prtO s k) /\ zqn (zr8 s) = 0 /\ 1 <= wnV (zr8 s) /\ wnV (zr8 s) <= 65535
open Classical in
noncomputable def spE (s : List UInt8) : Int := if yr6 s then 0 else 4
noncomputable def spP (s : List UInt8) : Pl := if spE s = 0 then ⟨zlr s 0, zlr s 1, zlr s 2, zlr s 3, wnV (zr8 s)⟩ else ⟨0, 0, 0, 0, 0⟩
theorem zos {c : UInt8} : ∀ {s : List UInt8} {x : List UInt8}, x ∈ zaz c s -> x.length <= s.length
 | [], x, h => by simp [zaz] at h; subst h; exact Nat.le_refl _
 | y :: s, x, h => by
   have ih := fun x h => zos (c := c) (s := s) (x := x) h
   unfold zaz at h
   split at h
   · rcases List.mem_cons.1 h with rfl | h
     · exact Nat.zero_le _
     · have := ih x h; simp; omega
   · split at h
     · rename_i z r hs
       rcases List.mem_cons.1 h with rfl | h
       · have := ih z (by rw [hs]; simp); simp; omega
       · have := ih x (by rw [hs]; simp [h]); simp; omega
     · rename_i hs; exact absurd hs (zot _ _)
theorem yjx (c : UInt8) (s : List UInt8) (k : Nat) : (ze8 (zaz c s) k).length <= s.length := by
 rw [ze8, List.getD_eq_getElem?_getD]
 cases h : (zaz c s)[k]? with
 | none => exact Nat.zero_le _
 | some x => exact zos (List.mem_of_getElem? h)
theorem yol (s : List UInt8) : 0 <= wnV s := by
 unfold wnV
 split
 · exact Int.natCast_nonneg _
 · exact Int.le_refl _
theorem yfx (s sep : List UInt8) : (yfy s sep).length <= s.length := by
 unfold yfy
 split
 · exact Nat.le_refl _
 · rw [List.length_take]; omega
theorem yfw (s sep : List UInt8) : (ybl s sep).length <= s.length := by
 unfold ybl
 split
 · exact Nat.zero_le _
 · rw [List.length_drop]; omega
theorem zk6 {s : List UInt8} (h : ¬ yr6 s) : fits1 (plA std (spP s)) (.agg [.int .u8 0, .int .u8 0, .int .u8 0, .int .u8 0, .int .u16 0]) /\ 4 = spE s := by
 have e : spE s = 4 := if_neg h
 exact ⟨yh5 (if_neg (by rw [e]; decide)), e.symm⟩
noncomputable def yjp (L : za8) : zbv := (133, fun xs => match xs with
 | [.str s] => some (L2 L upto 1000000 s, .tup [plA L (L spP s), .int .i64 (L spE s)])
 | _ => none)
def ipZ (s : List UInt8) (i k : Nat) : Int := if k < i then zlr s k else 0
def yoc (s : List UInt8) (i : Nat) : Prop := i <= 4 /\ ∀ k, k < i -> prtO s k
def parA (L : za8) (s : List UInt8) : Nat -> St -> Option Ann := fun id st => match id with
 | 0 => some ⟨Nat, fun i => [(30, .int .i64 (L zbd i)), (2, .ref 2 0), (4, .ref 4 0)],
     fun i => [(2, .box 32 [.int .u8 0, .int .u8 0, .int .u8 0, .int .u8 0, .int .u16 0]), (4, .box 32 [.int .u8 (L (L2 L ipZ s i) 0), .int .u8 (L (L2 L ipZ s i) 1), .int .u8 (L (L2 L ipZ s i) 2), .int .u8 (L (L2 L ipZ s i) 3), .int .u16 0])], [8, 28, 29], [],
     fun i => L2 L yoc s i, fun i => L to4 i⟩
 | _ => none
theorem ydz : zb6 Tryz.prog (yjp std) := by
 intro xs p r h hp
 dsimp only [yjp] at h |-
 split at h <;> cases h
 try simp only [L2, L3, std] at hp |-
 rename_i s
 have hp : s.length <= 1000000 := hp
 refine zae (T := tt) (S := fun L => zat [ylm L, yd9 L, zxs L]) (lo := fun L => parA L s) (lb := noA) 5 (fn := Tryz.f133) rfl rfl (by kernel_rfl) (by kernel_rfl) rfl za9 (za3 ⟨yfv, zt2, zxt, trivial⟩) (by kernel_rfl) ?_
 intro L P' Q' hL hP hQ
 have hcl := yfx s [58]
 have hbl := yfw s [58]
 (cbv; try simp only [syT, true_and, and_true])
 refine ⟨?_, ?_, fun h => ?_, fun h1 => ⟨fun h => ?_, fun h2 => ⟨⟨0, ?_⟩, fun i hi => ?_⟩⟩⟩
 · (subst hL; subst hQ; simp only [L2, L3, std] at *; try simp only [syS, reduceCtorEq, Int.reduceToNat, Int.reduceAdd, Int.reduceSub] at *)
   exact ⟨rfl, by show s.length <= _; omega⟩
 · (subst hL; subst hQ; simp only [L2, L3, std] at *; try simp only [syS, reduceCtorEq, Int.reduceToNat, Int.reduceAdd, Int.reduceSub] at *)
   exact ⟨rfl, by show (yfy s [58]).length <= _; omega⟩
 · (subst hL; subst hQ; simp only [L2, L3, std] at *; try simp only [syS, reduceCtorEq, Int.reduceToNat, Int.reduceAdd, Int.reduceSub] at *)
   exact zk6 fun x => by rw [x.1] at h; cases h
 · (subst hL; subst hQ; simp only [L2, L3, std] at *; try simp only [syS, reduceCtorEq, Int.reduceToNat, Int.reduceAdd, Int.reduceSub] at *)
   exact zk6 fun x => h (by have := x.2.1; show ((zo3 s).length : Int) = 4; omega)
 · (cbv; try simp only [syT, true_and, and_true])
   (subst hL; subst hQ; simp only [L2, L3, std] at *; try simp only [syS, reduceCtorEq, Int.reduceToNat, Int.reduceAdd, Int.reduceSub] at *)
   exact ⟨rfl, rfl, rfl, rfl, Nat.zero_le _, fun k hk => by omega⟩
 · cbv at hi
   (cbv; try simp only [syT, true_and, and_true])
   have hpl : ∀ k, (ze8 (zo3 s) k).length <= 1000000 := fun k => Nat.le_trans (yjx _ _ k) (by omega)
   refine ⟨fun h3 => ⟨?_, ?_, fun h4 => ?_, fun h4 => ⟨fun h5 => ?_, fun h5 => ⟨?_, i + 1, ?_⟩⟩⟩, fun h3 => ⟨?_, fun h4 => ⟨fun h5 => ⟨fun h6 => ?_, fun h6 => ?_⟩, fun h5 => ?_⟩, fun h4 => ?_⟩⟩
   · (subst hL; subst hQ; simp only [L2, L3, std] at *; try simp only [syS, reduceCtorEq, Int.reduceToNat, Int.reduceAdd, Int.reduceSub] at *)
     omega
   · (subst hL; subst hQ; simp only [L2, L3, std] at *; try simp only [syS, reduceCtorEq, Int.reduceToNat, Int.reduceAdd, Int.reduceSub] at *)
     exact hpl i
   · (subst hL; subst hQ; simp only [L2, L3, std] at *; try simp only [syS, reduceCtorEq, Int.reduceToNat, Int.reduceAdd, Int.reduceSub] at *)
     exact zk6 fun x => h4 (x.2.2.1 i (by omega)).1
   · (subst hL; subst hQ; simp only [L2, L3, std] at *; try simp only [syS, reduceCtorEq, Int.reduceToNat, Int.reduceAdd, Int.reduceSub] at *)
     have h5 : 255 < zlr s i := h5
     exact zk6 fun x => by have := (x.2.2.1 i (by omega)).2; omega
   · (subst hL; subst hQ; simp only [L2, L3, std] at *; try simp only [syS, reduceCtorEq, Int.reduceToNat, Int.reduceAdd, Int.reduceSub] at *)
     omega
   · (cbv; try simp only [syT, true_and, and_true])
     (subst hL; subst hQ; simp only [L2, L3, std] at *; try simp only [syS, reduceCtorEq, Int.reduceToNat, Int.reduceAdd, Int.reduceSub] at *)
     have h4 : ycq s i = 0 := h4
     have h5 : zlr s i <= 255 := h5
     have h0 : 0 <= zlr s i := yol _
     have hm : wnV (ze8 (zbg (yfy s [58]) [46]) i) % 256 = zlr s i := by
       show zlr s i % 256 = zlr s i
       omega
     rw [hm]
     have cell : ∀ k, (cond (zaj i k) (zlr s i) (ipZ s i k)) = ipZ s (i + 1) k := by
       intro k
       by_cases hik : i = k
       · subst hik
         rw [za5, ipZ, ipZ, if_pos (show i < i + 1 by omega)]; rfl
       · rw [zam hik]
         show ipZ s i k = _
         rw [ipZ, ipZ]
         by_cases hlt : k < i
         · rw [if_pos hlt, if_pos (by omega)]
         · rw [if_neg hlt, if_neg (by omega)]
     have hi4 : i < 4 := by omega
     refine ⟨cell 3, cell 2, cell 1, cell 0, by omega, ⟨by omega, fun k hk => ?_⟩, by show 4 - (i + 1) + 1 <= 4 - i; omega⟩
     by_cases hki : k = i
     · rw [hki]; exact ⟨h4, h5⟩
     · exact hi.2 k (by omega)
   · (subst hL; subst hQ; simp only [L2, L3, std] at *; try simp only [syS, reduceCtorEq, Int.reduceToNat, Int.reduceAdd, Int.reduceSub] at *)
     show (ybl s [58]).length <= 1000000
     omega
   all_goals
     (subst hL; subst hQ; simp only [L2, L3, std] at *; try simp only [syS, reduceCtorEq, Int.reduceToNat, Int.reduceAdd, Int.reduceSub] at *)
     have hi4 : i = 4 := by have := hi.1; omega
     subst hi4
   · have hok : yr6 s := ⟨h1, by show zhr (zo3 s) = 4; have h2 : ((zhr (zo3 s) : Nat) : Int) = 4 := h2; omega, hi.2, h4, h5, h6⟩
     have hE : spE s = 0 := if_pos hok
     refine ⟨yh5 ?_, hE.symm⟩
     rw [spP, if_pos hE, show wnV (ybl s [58]) % 65536 = wnV (ybl s [58]) by omega]
     rfl
   · exact zk6 fun x => by have := x.2.2.2.2.2; have h6 : 65535 < wnV (zr8 s) := h6; omega
   · exact zk6 fun x => by have := x.2.2.2.2.1; have h5 : wnV (zr8 s) < 1 := h5; omega
   · exact zk6 fun x => h4 x.2.2.2.1
end Sy
end Go.Proofs.YthppjaoicibeiaaGreatDoor
namespace Go.Proofs.YthppjaoicibeiaaGreatDoor
namespace Sy
open Go Go.RowKit
set_option maxRecDepth 100000
set_option linter.unusedSimpArgs false
set_option linter.unusedVariables false
def spC (s : List UInt8) (c : Int) : List (List UInt8) := zaz (ub c) s
theorem yir (s : List UInt8) (c : Int) : (spC s c).length <= s.length + 1 := by
 rw [spC, zb4]
 have := List.count_le_length (a := ub c) (l := s)
 omega
def ziv (l : List (List UInt8)) : List (List UInt8) := if ze8 l 0 = [42] /\ 1 < l.length then l.drop 1 else l
def zl0 (s : List UInt8) : Int := if s = [] then 3 else if 64 < s.length then 5 else if (ziv (zbg s [46])).all zfu then 0 else 4
def ygg (l : List (List UInt8)) (i : Nat) : Prop := i <= l.length /\ ∀ k, k < i -> zfu (ze8 l k) = true
def toP3 (l : List (List UInt8)) (i : Nat) : Nat := l.length - i
theorem zqe {l : List (List UInt8)} {i : Nat} (h : ygg l i) (hi : l.length <= i) : l.all zfu = true := by
 rw [List.all_eq_true]
 intro b hb
 obtain ⟨k, hk, rfl⟩ := List.getElem_of_mem hb
 have := h.2 k (by omega)
 rwa [ze8, List.getD_eq_getElem?_getD, List.getElem?_eq_getElem hk] at this
theorem zuy {l : List (List UInt8)} {i : Nat} (hi : i < l.length) (h : zfu (ze8 l i) = false) : l.all zfu = false := by
 rw [List.all_eq_false]
 refine ⟨l[i], List.getElem_mem hi, ?_⟩
 rw [ze8, List.getD_eq_getElem?_getD, List.getElem?_eq_getElem hi] at h
 have h : zfu l[i] = false := h
 rw [h]; decide
theorem zmx {l : List (List UInt8)} {i : Nat} (h : ygg l i) (hi : i < l.length) (hf : zfu (ze8 l i) = true) : ygg l (i + 1) :=
 ⟨hi, fun k hk => by
   rcases Nat.lt_succ_iff_lt_or_eq.1 hk with h1 | h1
   · exact h.2 k h1
   · rw [h1]; exact hf⟩
theorem yky {l : List (List UInt8)} (h1 : ze8 l 0 = [42]) (h2 : 1 < l.length) : (ziv l).length = l.length - 1 /\ ∀ i, ze8 (ziv l) i = ze8 l (Nat.add 1 i) := by
 rw [ziv, if_pos ⟨h1, h2⟩]
 refine ⟨by simp, fun i => ?_⟩
 rw [ze8, ze8, List.getD_eq_getElem?_getD, List.getD_eq_getElem?_getD, List.getElem?_drop]; rfl
theorem yar {l : List (List UInt8)} (h : ¬ ze8 l 0 = [42] \/ l.length <= 1) : ziv l = l := by
 refine if_neg (fun q => ?_)
 rcases h with h | h
 · exact h q.1
 · have := q.2
   omega
theorem yaq {s : List UInt8} (h1 : ¬ s = []) (h2 : s.length <= 64) (h : (ziv (zbg s [46])).all zfu = true) : zl0 s = 0 := by rw [zl0, if_neg h1, if_neg (by omega), if_pos h]
theorem yap {s : List UInt8} (h1 : ¬ s = []) (h2 : s.length <= 64) (h : (ziv (zbg s [46])).all zfu = false) : zl0 s = 4 := by rw [zl0, if_neg h1, if_neg (by omega), if_neg (by rw [h]; decide)]
theorem zy7 (s : List UInt8) : 0 < (zbg s [46]).length /\ (zbg s [46]).length <= s.length + 1 := by
 have := yir s 46
 have e : (spC s 46).length = (zbg s [46]).length := rfl
 refine ⟨?_, by omega⟩
 rw [zbg, zb4]; exact Nat.succ_pos _
def yan (L : za8) : zbv := (96, fun xs => match xs with
 | [.str s] => some (L2 L upto 1000000000 s, .int .i64 (L zl0 s))
 | _ => none)
def yte (L : za8) (s : List UInt8) : Nat -> St -> Option Ann := fun id st => match id with
 | 0 => some ⟨Nat, fun i => [(26, .int .i64 (L zbd i))], fun i => [], [24, 25], [], fun i => L2 L ygg (L ziv (L2 L zbg s [46])) i, fun i => L2 L toP3 (L ziv (L2 L zbg s [46])) i⟩
 | _ => none
theorem yao : zb6 Tryz.prog (yan std) := by
 intro xs p r h hp
 dsimp only [yan] at h |-
 split at h <;> cases h
 try simp only [L2, L3, std] at hp |-
 rename_i s
 refine za4 (T := tt) (S := fun L => zat [yd9 L, zzd L]) (lo := fun L => yte L s) (lb := noA) 5 (fn := Tryz.f96) (xs := fun L => [.str s]) rfl rfl (by kernel_rfl) (by kernel_rfl) rfl za9 (za3 ⟨zt2, zze, trivial⟩) (by kernel_rfl) ?_
 intro L P' Q' hL hP hQ
 (cbv; try simp only [syT, true_and, and_true])
 repeat' first | refine And.intro ?_ ?_ | refine fun (hh : (_ : Bool) = _) => ?_
 all_goals try (refine ⟨0, ?_⟩; (cbv; try simp only [syT, true_and, and_true]))
 all_goals try
   (intro i hi
    cbv at hi
    (cbv; try simp only [syT, true_and, and_true])
    repeat' first | refine And.intro ?_ ?_ | refine fun (hh : (_ : Bool) = _) => ?_
    all_goals try (refine ⟨i + 1, ?_⟩; (cbv; try simp only [syT, true_and, and_true])))
 all_goals (subst hL; subst hQ; simp only [L2, L3, std] at *; try simp only [syS, reduceCtorEq, Int.reduceToNat, Int.reduceAdd, Int.reduceSub] at *)
 all_goals have hls : zhr (zbg s [46]) = (zbg s [46]).length := rfl
 all_goals have hsp := zy7 s
 all_goals try (have g1 : ¬ s = [] := by assumption)
 all_goals try (have g2 : (s.length : Int) <= 64 := by assumption)
 all_goals try (have g2 : s.length <= 64 := by omega)
 all_goals try
   (have g3 : ze8 (zbg s [46]) 0 = [42] := by assumption
    have g4 : 1 < ((zhr (zbg s [46]) : Nat) : Int) := by assumption
    have g5 : 1 < (zbg s [46]).length := by omega
    obtain ⟨A1, A2⟩ := yky g3 g5)
 all_goals try
   (have g3 : ¬ ze8 (zbg s [46]) 0 = [42] := by assumption
    have B0 := yar (.inl g3))
 all_goals try
   (have g5 : ((zhr (zbg s [46]) : Nat) : Int) <= 1 := by assumption
    have g6 : (zbg s [46]).length <= 1 := by omega
    have B0 := yar (.inr g6))
 all_goals first
   | exact (if_pos (by assumption)).symm
   | exact (by rw [zl0, if_neg g1, if_pos (by omega)] : zl0 s = 5).symm
   | rfl
   | exact ⟨by omega, by omega⟩
   | exact ⟨Nat.zero_le _, fun k hk => by omega⟩
   | (show s.length <= 1000000000; omega)
   | (refine (yap g1 g2 (zuy (i := i) (by omega) ?_)).symm
      rw [A2]; assumption)
   | (refine (yap g1 g2 ?_).symm
      rw [B0]
      exact zuy (i := i) (by omega) (by assumption))
   | (refine (yaq g1 g2 (zqe hi (by omega))).symm)
   | (refine (yaq g1 g2 (zqe hi (by rw [B0]; omega))).symm)
   | (refine ⟨by omega, zmx hi (by omega) (by rw [A2]; assumption), ?_⟩
      show (ziv (zbg s [46])).length - (i + 1) + 1 <= (ziv (zbg s [46])).length - i
      omega)
   | (refine ⟨by omega, zmx hi (by rw [B0]; omega) (by rw [B0]; assumption), ?_⟩
      show (ziv (zbg s [46])).length - (i + 1) + 1 <= (ziv (zbg s [46])).length - i
      rw [B0]
      omega)
end Sy
end Go.Proofs.YthppjaoicibeiaaGreatDoor
namespace Go.Proofs.YthppjaoicibeiaaGreatDoor
namespace Sy
open Go Go.RowKit
end Sy
end Go.Proofs.YthppjaoicibeiaaGreatDoor
namespace Go.Proofs.YthppjaoicibeiaaGreatDoor
namespace Sy
open Go Go.RowKit
set_option maxRecDepth 100000
set_option linter.unusedSimpArgs false
set_option linter.unusedVariables false
def zxg (a b : List UInt8) : Bool := a.take b.length == b
def zp3 (a b : List UInt8) : Prop := a.length <= 1000000000 /\ b.length <= 1000000000
def ztc (L : za8) : zbv := (183, fun xs => match xs with | [.str a, .str b] => some (L2 L zp3 a b, .bool (L2 L zxg a b)) | _ => none)
def yjk (L : za8) : zbv := (145, fun xs => match xs with | [.str a, .str b] => some (L2 L zp3 a b, .bool (L2 L zxg a b)) | _ => none)
theorem zp4 : zb6 Tryz.prog (ztc std) := by
 intro xs p r h hp
 dsimp only [ztc] at h |-
 split at h <;> cases h
 try simp only [L2, L3, std] at hp |-
 rename_i a b
 refine zae (T := tt) (S := noS) (lo := noA) (lb := noA) 5 (fn := Tryz.f183) rfl rfl (by kernel_rfl) (by kernel_rfl) rfl za9 (zbb _) (by kernel_rfl) ?_
 (intro L P1 Q1 hL hP hQ; cbv; subst hL; simp only [L2, L3, std, syT]; subst hQ)
 (simp only [syS, reduceCtorEq, Int.reduceToNat, Int.reduceAdd, Int.reduceSub])
 exact ⟨fun h => ⟨by omega, rfl⟩, fun h => by
   have : ¬ a.take b.length = b := fun e => by have := congrArg List.length e; simp at this; omega
   simp [zxg, this]⟩
theorem ydy : zb6 Tryz.prog (yjk std) := by
 intro xs p r h hp
 dsimp only [yjk] at h |-
 split at h <;> cases h
 try simp only [L2, L3, std] at hp |-
 rename_i a b
 refine zae (T := tt) (S := fun L => zat [ztc L]) (lo := noA) (lb := noA) 5 (fn := Tryz.f145) rfl rfl (by kernel_rfl) (by kernel_rfl) rfl za9 (za3 ⟨zp4, trivial⟩) (by kernel_rfl) ?_
 (intro L P1 Q1 hL hP hQ; cbv; subst hL; simp only [L2, L3, std, syT]; subst hQ)
 (simp only [syS, reduceCtorEq, Int.reduceToNat, Int.reduceAdd, Int.reduceSub])
 exact hp
def cpT (a b : List UInt8) : List UInt8 := if zxg a b = true then a.drop b.length else a
def ynt (a b : List UInt8) : Bool := decide (b.length <= a.length) && decide (a.drop (a.length - b.length) = b)
def ylp (L : za8) : zbv := (197, fun xs => match xs with | [.str a, .str b] => some (L2 L zp3 a b, .tup [.str (L2 L cpT a b), .bool (L2 L zxg a b)]) | _ => none)
def ytn (L : za8) : zbv := (174, fun xs => match xs with | [.str a, .str b] => some (L2 L zp3 a b, .tup [.str (L2 L cpT a b), .bool (L2 L zxg a b)]) | _ => none)
def yiz (L : za8) : zbv := (198, fun xs => match xs with | [.str a, .str b] => some (L2 L zp3 a b, .bool (L2 L ynt a b)) | _ => none)
def ysg (L : za8) : zbv := (175, fun xs => match xs with | [.str a, .str b] => some (L2 L zp3 a b, .bool (L2 L ynt a b)) | _ => none)
theorem yjl {a b : List UInt8} (h : zxg a b = true) : b.length <= a.length := by
 have h : a.take b.length = b := by simpa [zxg] using h
 have := congrArg List.length h
 simp at this
 omega
theorem yfz : zb6 Tryz.prog (ylp std) := by
 intro xs p r h hp
 dsimp only [ylp] at h |-
 split at h <;> cases h
 try simp only [L2, L3, std] at hp |-
 rename_i a b
 obtain ⟨p1, p2⟩ : zp3 a b := hp
 refine zae (T := tt) (S := fun L => zat [ztc L]) (lo := noA) (lb := noA) 5 (fn := Tryz.f197) rfl rfl (by kernel_rfl) (by kernel_rfl) rfl za9 (za3 ⟨zp4, trivial⟩) (by kernel_rfl) ?_
 (intro L P1 Q1 hL hP hQ; cbv; subst hL; simp only [L2, L3, std, syT]; subst hQ)
 (simp only [syS, reduceCtorEq, Int.reduceToNat, Int.reduceAdd, Int.reduceSub])
 refine ⟨⟨p1, p2⟩, fun h => ⟨(if_neg (by rw [h]; decide)).symm, h.symm⟩, fun h => ⟨⟨by omega, ?_⟩, (if_pos h).symm, h.symm⟩⟩
 have := yjl h
 omega
theorem ylo : zb6 Tryz.prog (ytn std) := by
 intro xs p r h hp
 dsimp only [ytn] at h |-
 split at h <;> cases h
 try simp only [L2, L3, std] at hp |-
 rename_i a b
 refine zae (T := tt) (S := fun L => zat [ylp L]) (lo := noA) (lb := noA) 5 (fn := Tryz.f174) rfl rfl (by kernel_rfl) (by kernel_rfl) rfl za9 (za3 ⟨yfz, trivial⟩) (by kernel_rfl) ?_
 (intro L P1 Q1 hL hP hQ; cbv; subst hL; simp only [L2, L3, std, syT]; subst hQ)
 (simp only [syS, reduceCtorEq, Int.reduceToNat, Int.reduceAdd, Int.reduceSub])
 exact hp
theorem ydb : zb6 Tryz.prog (yiz std) := by
 intro xs p r h hp
 dsimp only [yiz] at h |-
 split at h <;> cases h
 try simp only [L2, L3, std] at hp |-
 rename_i a b
 obtain ⟨p1, p2⟩ : zp3 a b := hp
 refine zae (T := tt) (S := noS) (lo := noA) (lb := noA) 5 (fn := Tryz.f198) rfl rfl (by kernel_rfl) (by kernel_rfl) rfl za9 (zbb _) (by kernel_rfl) ?_
 (intro L P1 Q1 hL hP hQ; cbv; subst hL; simp only [L2, L3, std, syT]; subst hQ)
 (simp only [syS, reduceCtorEq, Int.reduceToNat, Int.reduceAdd, Int.reduceSub])
 refine ⟨fun h => ?_, fun h => ?_⟩
 · have e : ((a.length : Int) - b.length + 9223372036854775808) % 18446744073709551616 - 9223372036854775808 = ((a.length - b.length : Nat) : Int) := by omega
   rw [e, Int.toNat_natCast]
   refine ⟨⟨by omega, by omega⟩, ?_⟩
   unfold ynt seq
   rw [decide_eq_true (show b.length <= a.length by omega)]
   simp [Bool.beq_eq_decide_eq]
 · unfold ynt
   rw [decide_eq_false (show ¬ b.length <= a.length by omega)]; rfl
theorem yiy : zb6 Tryz.prog (ysg std) := by
 intro xs p r h hp
 dsimp only [ysg] at h |-
 split at h <;> cases h
 try simp only [L2, L3, std] at hp |-
 rename_i a b
 refine zae (T := tt) (S := fun L => zat [yiz L]) (lo := noA) (lb := noA) 5 (fn := Tryz.f175) rfl rfl (by kernel_rfl) (by kernel_rfl) rfl za9 (za3 ⟨ydb, trivial⟩) (by kernel_rfl) ?_
 (intro L P1 Q1 hL hP hQ; cbv; subst hL; simp only [L2, L3, std, syT]; subst hQ)
 (simp only [syS, reduceCtorEq, Int.reduceToNat, Int.reduceAdd, Int.reduceSub])
 exact hp
def yhr (a b : List UInt8) : Bool := decide (zit a = zit b) || (zxg (zit a) [42, 46] && (!decide (cpT (zit a) [42, 46] = []) && (decide ((cpT (zit a) [42, 46]).length + 1 < (zit b).length) && ynt (zit b) (46 :: cpT (zit a) [42, 46]))))
def yqb (a b : List UInt8) : Prop := a.length <= 1000000 /\ b.length <= 1000000
def ylq (L : za8) : zbv := (136, fun xs => match xs with | [.str a, .str b] => some (L2 L yqb a b, .bool (L2 L yhr a b)) | _ => none)
theorem yg0 : zb6 Tryz.prog (ylq std) := by
 intro xs p r h hp
 dsimp only [ylq] at h |-
 split at h <;> cases h
 try simp only [L2, L3, std] at hp |-
 rename_i a b
 obtain ⟨p1, p2⟩ : yqb a b := hp
 refine zae (T := tt) (S := fun L => zat [znv L, ytn L, ysg L]) (lo := noA) (lb := noA) 5 (fn := Tryz.f136) rfl rfl (by kernel_rfl) (by kernel_rfl) rfl za9 (za3 ⟨zmh, ylo, yiy, trivial⟩) (by kernel_rfl) ?_
 (intro L P1 Q1 hL hP hQ; cbv; subst hL; simp only [L2, L3, std, syT]; subst hQ)
 (simp only [syS, reduceCtorEq, Int.reduceToNat, Int.reduceAdd, Int.reduceSub])
 have la : (zit a).length = a.length := List.length_map _
 have lb : (zit b).length = b.length := List.length_map _
 have lc : (cpT (zit a) [42, 46]).length <= (zit a).length := by
   unfold cpT
   split
   · rw [List.length_drop]; omega
   · omega
 have e : ((cpT (zit a) [42, 46]).length : Int) + 1 = (((cpT (zit a) [42, 46]).length + 1 : Nat) : Int) := by omega
 refine ⟨by show a.length <= _; omega, by show b.length <= _; omega, fun h => ?_, fun h => ⟨⟨by omega, by decide⟩, fun h2 => ⟨fun h3 => ⟨fun h4 => ⟨by simp; omega, ⟨by omega, by simp; omega⟩, ?_⟩, fun h4 => ?_⟩, fun h3 => ?_⟩, fun h2 => ?_⟩⟩
 · unfold yhr; rw [decide_eq_true h]; rfl
 · unfold yhr
   rw [decide_eq_false h, h2, decide_eq_false h3, decide_eq_true (by omega)]; rfl
 · unfold yhr
   rw [decide_eq_false h, h2, decide_eq_false h3, decide_eq_false (show ¬ (cpT (zit a) [42, 46]).length + 1 < (zit b).length by omega)]; rfl
 · unfold yhr
   rw [decide_eq_false h, h2, decide_eq_true h3]; rfl
 · unfold yhr
   rw [decide_eq_false h, h2]; rfl
theorem zx5 : za7 Tryz.prog 86 [] (.bool true) := by
 refine zae (T := tt) (S := fun L => zat [ylq L, ztr L]) (lo := noA) (lb := noA) 5 (fn := Tryz.f86) rfl rfl (by kernel_rfl) (by kernel_rfl) rfl za9 (za3 ⟨yg0, zpb, trivial⟩) (by kernel_rfl) ?_
 (intro L P1 Q1 hL hP hQ; cbv; subst hL; simp only [L2, L3, std, syT]; subst hQ)
 (simp only [syS, reduceCtorEq, Int.reduceToNat, Int.reduceAdd, Int.reduceSub])
 have e1 : yhr [42, 46, 97, 46, 98] [120, 46, 121, 46, 97, 46, 98] = true := by decide +kernel
 have e2 : yhr [42, 46, 97, 46, 98] [97, 46, 98] = false := by decide +kernel
 have e3 : zgs [119, 101, 98, 45, 49] = true := by decide +kernel
 rw [e1, e2, e3]
 exact ⟨⟨by decide, by decide⟩, fun _ => ⟨⟨by decide, by decide⟩, fun _ => rfl, by decide⟩, by decide⟩
def yrq (s t : List UInt8) : Bool := Lib.contains s t
def ylr (L : za8) : zbv := (146, fun xs => match xs with | [.str s, .str t] => some (L2 L upto 1000000000 s, .bool (L2 L yrq s t)) | _ => none)
theorem ymg (b : Bool) : ∀ (h : Array Obj) (D : Nat -> Prop), R h D zar (.bool b) (.bool b) := fun _ _ => .bool _
theorem yg2 : zb6 Tryz.prog (ylr std) := by
 intro xs p r h hp
 dsimp only [ylr] at h |-
 split at h <;> cases h
 try simp only [L2, L3, std] at hp |-
 rename_i s t
 have hp : s.length <= 1000000000 := hp
 refine zg7 (fn := Tryz.f146) rfl rfl (by kernel_rfl) (zx8 (zcm _) (zcm _)) (fun w hg => ?_)
 obtain ⟨m, hm⟩ := hg.2.2.2.2 0 (by kernel_rfl)
 refine (Tryz.strings_Contains ⟨s.toArray⟩ ⟨t.toArray⟩ m w (by show s.toArray.size < _; rw [List.size_toArray]; omega) hm).mono ?_
 rintro e w' ⟨rfl, rfl⟩
 exact ⟨_, rfl, Below.refl _ _, ymg _⟩
def yrp (s : List UInt8) : Prop := ∃ j, j + 1 < s.length /\ zad s j = 47 /\ zad s (j + 1) = 47
theorem occ2 (s : List UInt8) (j : Nat) : Lib.occAt s [47, 47] j = true ↔ j + 1 < s.length /\ zad s j = 47 /\ zad s (j + 1) = 47 := by
 unfold Lib.occAt
 rw [List.isPrefixOf_iff_prefix]
 have hb : ∀ k, k < s.length -> (zad s k = 47 ↔ s[k]? = some 47) := by
   intro k hk
   rw [zgn hk, List.getElem?_eq_getElem hk]
   constructor
   · intro h
     have : s[k] = 47 := UInt8.toNat_inj.1 (by show s[k].toNat = 47; omega)
     rw [this]
   · intro h
     rw [Option.some.inj h]; rfl
 constructor
 · rintro ⟨r, hr⟩
   have hl := congrArg List.length hr
   simp at hl
   have h0 : s[j]? = some 47 := by
     have := congrArg (fun l => l[0]?) hr
     simp [List.getElem?_drop] at this
     exact this.symm
   have h1 : s[j + 1]? = some 47 := by
     have := congrArg (fun l => l[1]?) hr
     simp [List.getElem?_drop] at this
     exact this.symm
   exact ⟨by omega, (hb j (by omega)).2 h0, (hb (j + 1) (by omega)).2 h1⟩
 · rintro ⟨h, h0, h1⟩
   have h0 := (hb j (by omega)).1 h0
   have h1 := (hb (j + 1) h).1 h1
   refine ⟨s.drop (j + 2), ?_⟩
   rw [List.drop_eq_getElem_cons (i := j) (by omega), List.drop_eq_getElem_cons (i := j + 1) h]
   rw [List.getElem?_eq_getElem (by omega)] at h0 h1
   rw [Option.some.inj h0, Option.some.inj h1]; rfl
theorem ybn {s : List UInt8} : yrq s [47, 47] = true ↔ yrp s := by
 unfold yrq Lib.contains
 rw [decide_eq_true_eq]
 rcases Lib.index_spec s [47, 47] with ⟨h1, h2⟩ | ⟨i, h1, h2, h3, h4⟩
 · rw [h1]
   refine ⟨fun h => absurd h (by decide), fun ⟨j, hj⟩ => ?_⟩
   have := h2 j (by omega)
   rw [(occ2 s j).2 hj] at this
   cases this
 · rw [h1]
   exact ⟨fun _ => ⟨i, (occ2 s i).1 h3⟩, fun _ => Int.natCast_nonneg _⟩
def ymv (c : Int) : Bool := decide (33 <= c) && decide (c <= 126)
open Classical in
noncomputable def zvy (s : List UInt8) : Int := if zxg s [47] = false \/ yrp s \/ ycz ymv s = false then 4 else if 128 < s.length then 5 else 0
noncomputable def zz9 (L : za8) : zbv := (97, fun xs => match xs with | [.str s] => some (L2 L upto 1000000000 s, .int .i64 (L zvy s)) | _ => none)
def ysp (L : za8) (s : List UInt8) : Nat -> St -> Option Ann := fun id st => match id with
 | 0 => some ⟨Nat, fun i => [(13, .int .i64 (L zbd i))], fun i => [], [0, 12], [], fun i => L (L2 L zjf ymv s) i, fun i => L2 L toC s i⟩
 | _ => none
theorem zza : zb6 Tryz.prog (zz9 std) := by
 intro xs p r h hp
 dsimp only [zz9] at h |-
 split at h <;> cases h
 try simp only [L2, L3, std] at hp |-
 rename_i s
 have hp : s.length <= 1000000000 := hp
 refine za4 (T := tt) (S := fun L => zat [yjk L, ylr L]) (lo := fun L => ysp L s) (lb := noA) 5 (fn := Tryz.f97) (xs := fun L => [.str s]) rfl rfl (by kernel_rfl) (by kernel_rfl) rfl za9 (za3 ⟨ydy, yg2, trivial⟩) (by kernel_rfl) ?_
 intro L P' Q' hL hP hQ
 (cbv; try simp only [syT, true_and, and_true])
 repeat' first | refine And.intro ?_ ?_ | refine fun (hh : (_ : Bool) = _) => ?_
 all_goals try (refine ⟨0, ?_⟩; (cbv; try simp only [syT, true_and, and_true]))
 all_goals try
   (intro i hi2
    have hi : zjf ymv s i := by
      have h := hi2
      rw [hL] at h
      exact h
    clear hi2
    (cbv; try simp only [syT, true_and, and_true])
    repeat' first | refine And.intro ?_ ?_ | refine fun (hh : (_ : Bool) = _) => ?_
    all_goals try (refine ⟨i + 1, ?_⟩; (cbv; try simp only [syT, true_and, and_true])))
 all_goals (subst hL; subst hQ; simp only [L2, L3, std] at *; try simp only [syS, reduceCtorEq, Int.reduceToNat, Int.reduceAdd, Int.reduceSub] at *)
 all_goals have hcd : yrq s [47, 47] = false -> ¬ yrp s := fun h h2 => by rw [ybn.2 h2] at h; cases h
 all_goals have hE : ∀ k, zad s k = ((s.getD k 0).toNat : Int) := fun _ => rfl
 all_goals first
   | exact ⟨by omega, by decide⟩
   | exact (if_pos (.inl (by assumption))).symm
   | exact hp
   | exact (if_pos (.inr (.inl (ybn.1 (by assumption))))).symm
   | exact zry _ _
   | exact ⟨by omega, by omega⟩
   | (refine (if_pos (.inr (.inr (zsn (i := i) (by omega) ?_)))).symm
      rw [ymv, hE]
      first
        | (rw [decide_eq_false (by omega)]; rfl)
        | (rw [Bool.and_eq_false_iff]; exact .inr (decide_eq_false (by omega))))
   | (refine ⟨by omega, zj0 hi (by omega) ?_, ?_⟩
      · rw [ymv, hE, Bool.and_eq_true, decide_eq_true_eq, decide_eq_true_eq]; exact ⟨by omega, by omega⟩
      · show s.length - (i + 1) + 1 <= s.length - i
        omega)
   | (have ha := zl6 hi (by omega)
      have hn : ¬ (zxg s [47] = false \/ yrp s \/ ycz ymv s = false) := by
        have q1 : zxg s [47] = true := by assumption
        have q2 := hcd (by assumption)
        rintro (q | q | q)
        · rw [q1] at q; cases q
        · exact q2 q
        · rw [ha] at q; cases q
      rw [zvy, if_neg hn]
      first
        | exact (if_pos (show 128 < s.length by omega)).symm
        | exact (if_neg (show ¬ 128 < s.length by omega)).symm)
end Sy
end Go.Proofs.YthppjaoicibeiaaGreatDoor
namespace Go.Proofs.YthppjaoicibeiaaGreatDoor
namespace Sy
open Go Go.RowKit
set_option maxRecDepth 100000
set_option linter.unusedSimpArgs false
set_option linter.unusedVariables false
end Sy
end Go.Proofs.YthppjaoicibeiaaGreatDoor
namespace Go.Proofs.YthppjaoicibeiaaGreatDoor
namespace Sy
open Go Go.RowKit
set_option linter.unusedVariables false
def DW (W : World) : Nat -> Prop := fun b => b < W.heap.size
structure zdm {H : Type} (enc : TypeId × Value -> H) (P : Program) (W : World) (t : TypeId) (α : Type) (sz : Nat) (av : α -> Nat -> AV) (ok : α -> Prop) : Prop where
 size : P.cellsOf t = sz
 go : ∀ fuel cs x, DataW.trod enc P W 0 (fun _ => true) true fuel t cs = some x -> ∃ y : α, ok y /\ cs.length = sz /\ ∀ j, j < sz -> ∃ v, cs[j]? = some v /\ one v /\ R W.heap (DW W) zar (av y j) v
structure zuz {H : Type} (enc : TypeId × Value -> H) (P : Program) (W : World) (fs : List Field) (off : Nat) (α : Type) (sz : Nat) (av : α -> Nat -> AV) (ok : α -> Prop) : Prop where
 go : ∀ fuel (cs : List Value) (xs : List (DataW H × List MemPlace)), (∀ (i : Nat) (f : Field), fs[i]? = some f -> ∃ x, DataW.trod enc P W 0 (fun _ => true) true fuel f.type ((cs.drop f.offset).take (P.cellsOf f.type)) = some x) -> ∃ y : α, ok y /\ ∀ j, j < sz -> ∃ v, cs[off + j]? = some v /\ one v /\ R W.heap (DW W) zar (av y j) v
theorem sgl {h : Array Obj} {D : Nat -> Prop} {f : Nat -> AV} {v : Value} (h1 : one v) (h2 : R h D zar (f 0) v) : ∀ j, j < 1 -> ∃ u, [v][j]? = some u /\ one u /\ R h D zar (f j) u := by
 intro j hj
 obtain rfl : j = 0 := by omega
 exact ⟨v, rfl, h1, h2⟩
theorem zrj {α : Type} (p : Nat -> α -> Prop) : ∀ n, (∀ i, i < n -> ∃ y, p i y) -> ∃ l : List α, l.length = n /\ ∀ i, i < n -> ∃ y, l[i]? = some y /\ p i y
 | 0, _ => ⟨[], rfl, fun i hi => by omega⟩
 | m + 1, h => by
   obtain ⟨l, e1, e2⟩ := zrj p m (fun i hi => h i (by omega))
   obtain ⟨y, hy⟩ := h m (by omega)
   refine ⟨l ++ [y], by simp [e1], fun i hi => ?_⟩
   by_cases hi' : i < m
   · obtain ⟨z, z1, z2⟩ := e2 i hi'
     exact ⟨z, by rw [List.getElem?_append_left (by omega)]; exact z1, z2⟩
   · have : i = m := by omega
     subst this
     exact ⟨y, by rw [<- e1]; simp, hy⟩
section
variable {H : Type} {enc : TypeId × Value -> H} {P : Program} {W : World}
theorem opens_int {t : TypeId} {k : IntKind} (ht : P.underlying t = some (.int k)) (hc : P.cellsOf t = 1) : zdm enc P W t Int 1 (fun n _ => .int k n) (fun n => (Lit.int k n).wf = true) := by
 refine ⟨hc, fun fuel cs x h => ?_⟩
 obtain ⟨n, rfl, rfl, hw⟩ := DataW.trod_int ht h
 exact ⟨n, hw, rfl, sgl rfl (.int k n)⟩
theorem zfw {t : TypeId} (ht : P.underlying t = some .string) (hc : P.cellsOf t = 1) : zdm enc P W t (List UInt8) 1 (fun l _ => .str l) (fun l => l.length <= maxLen) := by
 refine ⟨hc, fun fuel cs x h => ?_⟩
 obtain ⟨s, rfl, rfl, hs⟩ := DataW.trod_string ht h
 exact ⟨s.data.toList, by rw [Array.length_toList]; exact hs, rfl, sgl rfl (.str _ _ rfl)⟩
def avL {α : Type} (av : α -> Nat -> AV) (l : List α) (i j : Nat) : AV := match l[i]? with | some y => av y j | none => .dead
theorem zrb {t e : TypeId} {α : Type} {sz : Nat} {av : α -> Nat -> AV} {ok : α -> Prop} (ht : P.underlying t = some (.slice e)) (hc : P.cellsOf t = 1) (he : zdm enc P W e α sz av ok) (hs : 0 < sz) :
   zdm enc P W t (List α) 1 (fun l _ => .lst sz l.length (avL av l)) (fun l => l.length <= maxLen /\ ∀ y ∈ l, ok y) := by
 refine ⟨hc, fun fuel cs x h => ?_⟩
 rcases DataW.trod_slice ht h with ⟨rfl, rfl⟩ | ⟨a, len, cap, elems, rest, n, _, rfl, rfl, hb, hl, hm, hlen, hel, _, _⟩
 · exact ⟨[], ⟨Nat.zero_le _, fun y hy => by cases hy⟩, rfl, sgl rfl (.lst0 _ _ _ _ (fun _ => rfl))⟩
 · have each : ∀ i, i < len -> ∃ y : α, ok y /\ ∀ j, j < sz -> ∃ v, W.cell? ((a.add (i * sz)).add j) = some v /\ one v /\ R W.heap (DW W) zar (av y j) v := by
     intro i hi
     have h1 := hel i hi
     rw [he.size] at h1
     obtain ⟨z, hz⟩ : ∃ z, elems[i]? = some z := ⟨elems[i], by simp [hlen, hi]⟩
     rw [hz, Option.bind_eq_some_iff] at h1
     obtain ⟨cs', h2, h3⟩ := h1
     obtain ⟨y, y1, y2, y3⟩ := he.go _ _ _ h3
     refine ⟨y, y1, fun j hj => ?_⟩
     obtain ⟨v, v1, v2, v3⟩ := y3 j hj
     exact ⟨v, by rw [(World.cells?_some h2).2.2 j hj]; exact v1, v2, v3⟩
   obtain ⟨l, hl1, hl2⟩ : ∃ l : List α, l.length = len /\ ∀ i, i < len -> ∃ y, l[i]? = some y /\ ok y /\ ∀ j, j < sz -> ∃ v, W.cell? ((a.add (i * sz)).add j) = some v /\ one v /\ R W.heap (DW W) zar (av y j) v :=
     zrj (fun i y => ok y /\ ∀ j, j < sz -> ∃ v, W.cell? ((a.add (i * sz)).add j) = some v /\ one v /\ R W.heap (DW W) zar (av y j) v) len each
   refine ⟨l, ⟨by omega, fun y hy => ?_⟩, rfl, sgl rfl ?_⟩
   · obtain ⟨i, hi, rfl⟩ := List.getElem_of_mem hy
     obtain ⟨z, z1, z2, _⟩ := hl2 i (by omega)
     rw [List.getElem?_eq_getElem hi] at z1
     cases z1; exact z2
   · show R W.heap (DW W) zar (.lst sz l.length (avL av l)) _
     by_cases h0 : len = 0
     · subst h0; rw [hl1]; exact .lst0 _ _ _ _ (fun h => by cases h)
     · have cell : ∀ i j, i < len -> j < sz -> ∃ v, hcell W.heap a.block (a.off + i * sz + j) = some v /\ one v /\ R W.heap (DW W) zar (avL av l i j) v := by
         intro i j hi hj
         obtain ⟨y, y1, _, y3⟩ := hl2 i hi
         obtain ⟨v, v1, v2, v3⟩ := y3 j hj
         refine ⟨v, ?_, v2, by rw [avL, y1]; exact v3⟩
         rw [<- zld]
         have hsp : ∀ p : Addr, W.cell? p = some v -> p.spot = none := by
           intro p hp
           unfold World.cell? at hp
           split at hp
           · split at hp
             · cases hp
             · rename_i hn; simpa using hn
           · cases hp
         have h1 := hsp _ v1
         have e : (a.add (i * sz)).add j = ⟨a.block, a.off + i * sz + j, none⟩ := by
           have hb1 : ((a.add (i * sz)).add j).block = a.block := by simp only [Addr.add]; split <;> split <;> rfl
           have hb2 : ((a.add (i * sz)).add j).off = a.off + i * sz + j := by simp only [Addr.add]; split <;> split <;> simp_all
           cases hq : (a.add (i * sz)).add j with
           | mk b o s => rw [hq] at h1 hb1 hb2; simp_all
         rw [<- e]; exact v1
       have hsp0 : a.spot = none := by
         obtain ⟨y, _, _, y3⟩ := hl2 0 (by omega)
         obtain ⟨v, v1, _⟩ := y3 0 hs
         rw [Nat.zero_mul] at v1
         simp only [Addr.add, if_true] at v1
         unfold World.cell? at v1
         split at v1
         · split at v1
           · cases v1
           · rename_i hn; simpa using hn
         · cases v1
       have hD : DW W a.block := by
         obtain ⟨v, v1, _⟩ := cell 0 0 (by omega) hs
         refine Classical.byContradiction fun hn => ?_
         unfold hcell at v1
         rw [Array.getElem?_eq_none (by unfold DW at hn; omega)] at v1
         cases v1
       have ea : a = ⟨a.block, a.off, none⟩ := by cases a; simp_all
       rw [ea, <- hl1]
       refine .lst sz l.length (avL av l) a.block a.off cap (fun i j => (hcell W.heap a.block (a.off + i * sz + j)).getD undef) hD (by omega) (fun i j hi hj => ?_) (fun i j hi hj => ?_) (fun i j hi hj => ?_)
       all_goals
         obtain ⟨v, v1, v2, v3⟩ := cell i j (by omega) hj
         rw [v1]
         first | rfl | exact v2 | exact v3
theorem zzf {t e : TypeId} {α : Type} {sz n : Nat} {av : α -> Nat -> AV} {ok : α -> Prop} (ht : P.underlying t = some (.array n e)) (hc : P.cellsOf t = n * sz) (he : zdm enc P W e α sz av ok) (hs : 0 < sz) :
   zdm enc P W t (List α) (n * sz) (fun l j => avL av l (j / sz) (j % sz)) (fun l => l.length = n /\ ∀ y ∈ l, ok y) := by
 refine ⟨hc, fun fuel cs x h => ?_⟩
 obtain ⟨xs, m, _, rfl, hl, hx, hel⟩ := DataW.trod_array ht h
 obtain ⟨l, hl1, hl2⟩ : ∃ l : List α, l.length = n /\ ∀ i, i < n -> ∃ y, l[i]? = some y /\ ok y /\ ∀ j, j < sz -> ∃ v, cs[i * sz + j]? = some v /\ one v /\ R W.heap (DW W) zar (av y j) v :=
   zrj (fun i y => ok y /\ ∀ j, j < sz -> ∃ v, cs[i * sz + j]? = some v /\ one v /\ R W.heap (DW W) zar (av y j) v) n (fun i hi => by
     have h1 := hel i hi
     rw [he.size, List.getElem?_eq_getElem (by omega)] at h1
     obtain ⟨y, y1, y2, y3⟩ := he.go _ _ _ h1
     refine ⟨y, y1, fun j hj => ?_⟩
     obtain ⟨v, v1, v2⟩ := y3 j hj
     rw [List.getElem?_take, if_pos hj, List.getElem?_drop] at v1
     exact ⟨v, v1, v2⟩)
 refine ⟨l, ⟨hl1, fun y hy => ?_⟩, by rw [hl, hc], fun j hj => ?_⟩
 · obtain ⟨i, hi, rfl⟩ := List.getElem_of_mem hy
   obtain ⟨z, z1, z2, _⟩ := hl2 i (by omega)
   rw [List.getElem?_eq_getElem hi] at z1
   cases z1; exact z2
 · have hi : j / sz < n := Nat.div_lt_of_lt_mul (by rw [Nat.mul_comm]; exact hj)
   obtain ⟨z, z1, _, z3⟩ := hl2 (j / sz) hi
   obtain ⟨v, v1, v2⟩ := z3 (j % sz) (Nat.mod_lt _ hs)
   rw [show j / sz * sz + j % sz = j by rw [Nat.mul_comm]; exact Nat.div_add_mod j sz] at v1
   exact ⟨v, v1, by unfold avL; rw [z1]; exact v2⟩
theorem zdo (off : Nat) : zuz enc P W [] off Unit 0 (fun _ _ => .dead) (fun _ => True) := ⟨fun _ _ _ _ => ⟨(), trivial, fun j hj => by omega⟩⟩
theorem zaq {f : Field} {fs : List Field} {off : Nat} {α β : Type} {sz sz' : Nat} {av : α -> Nat -> AV} {av' : β -> Nat -> AV} {ok : α -> Prop} {ok' : β -> Prop} (ho : f.offset = off) (hf : zdm enc P W f.type α sz av ok) (hr : zuz enc P W fs (off + sz) β sz' av' ok') :
   zuz enc P W (f :: fs) off (α × β) (sz + sz') (fun y j => if j < sz then av y.1 j else av' y.2 (j - sz)) (fun y => ok y.1 /\ ok' y.2) := by
 refine ⟨fun fuel cs xs h => ?_⟩
 obtain ⟨x, hx⟩ := h 0 f rfl
 obtain ⟨y, y1, y2, y3⟩ := hf.go _ _ _ hx
 obtain ⟨z, z1, z2⟩ := hr.go fuel cs xs (fun i g hg => h (i + 1) g hg)
 refine ⟨(y, z), ⟨y1, z1⟩, fun j hj => ?_⟩
 by_cases hlt : j < sz
 · obtain ⟨v, v1, v2, v3⟩ := y3 j hlt
   refine ⟨v, ?_, v2, by simp only [if_pos hlt]; exact v3⟩
   rw [hf.size, List.getElem?_take, if_pos hlt, List.getElem?_drop, ho] at v1
   exact v1
 · obtain ⟨v, v1, v2, v3⟩ := z2 (j - sz) (by omega)
   refine ⟨v, ?_, v2, by simp only [if_neg hlt]; exact v3⟩
   rw [<- v1]; congr 1; omega
theorem zcg {t : TypeId} {fs : Array Field} {α : Type} {sz : Nat} {av : α -> Nat -> AV} {ok : α -> Prop} (ht : P.underlying t = some (.struct fs)) (hc : P.cellsOf t = sz) (hf : zuz enc P W fs.toList 0 α sz av ok) : zdm enc P W t α sz av ok := by
 refine ⟨hc, fun fuel cs x h => ?_⟩
 obtain ⟨xs, n, rfl, rfl, hl, hx, hfs⟩ := DataW.trod_struct ht h
 obtain ⟨y, y1, y2⟩ := hf.go n cs xs (fun i f hi => by
   have := hfs i f (by simpa using hi)
   have hlt : i < xs.length := by rw [hx]; simpa using (List.getElem?_eq_some_iff.1 hi).1
   exact ⟨xs[i], by rw [this]; simp [hlt]⟩)
 exact ⟨y, y1, by omega, fun j hj => by obtain ⟨v, v1, v2⟩ := y2 j hj; exact ⟨v, by simpa using v1, v2⟩⟩
theorem zdm.map {t : TypeId} {α β : Type} {sz : Nat} {av : α -> Nat -> AV} {av' : β -> Nat -> AV} {ok : α -> Prop} {ok' : β -> Prop} (O : zdm enc P W t α sz av ok) (f : α -> β) (h1 : ∀ y j, j < sz -> av y j = av' (f y) j) (h2 : ∀ y, ok y -> ok' (f y)) : zdm enc P W t β sz av' ok' := by
 refine ⟨O.size, fun fuel cs x h => ?_⟩
 obtain ⟨y, y1, y2, y3⟩ := O.go fuel cs x h
 refine ⟨f y, h2 y y1, y2, fun j hj => ?_⟩
 obtain ⟨v, v1, v2, v3⟩ := y3 j hj
 exact ⟨v, v1, v2, by rw [<- h1 y j hj]; exact v3⟩
theorem open_one {t : TypeId} {α : Type} {av : α -> Nat -> AV} {ok : α -> Prop} {v : Value} {d : DataW H} {p : List MemPlace} (O : zdm enc P W t α 1 av ok) (hv : v.cells = #[v]) (h : DataW.Trod enc P W 0 (fun _ => true) true t v d p) :
   ∃ y, ok y /\ R W.heap (DW W) zar (av y 0) v := by
 obtain ⟨fuel, h⟩ := h
 obtain ⟨y, y1, y2, y3⟩ := O.go _ _ _ h
 obtain ⟨u, u1, u2, u3⟩ := y3 0 (by omega)
 rw [hv] at u1
 simp at u1
 subst u1
 exact ⟨y, y1, u3⟩
theorem open_agg {t : TypeId} {α : Type} {sz : Nat} {av : α -> Nat -> AV} {ok : α -> Prop} {cs : Array Value} {d : DataW H} {p : List MemPlace} (O : zdm enc P W t α sz av ok) (h : DataW.Trod enc P W 0 (fun _ => true) true t (.agg cs) d p) :
   ∃ y, ok y /\ R W.heap (DW W) zar (.agg ((List.range sz).map (av y))) (.agg cs) := by
 obtain ⟨fuel, h⟩ := h
 obtain ⟨y, y1, y2, y3⟩ := O.go _ _ _ h
 refine ⟨y, y1, .agg _ _ (by simpa [Value.cells] using y2.symm) (fun i v hv => ?_) (fun i x v hx hv => ?_)⟩
 · have hi : i < sz := by
     have := (Array.getElem?_eq_some_iff.1 hv).1
     simp [Value.cells] at y2; omega
   obtain ⟨u, u1, u2, u3⟩ := y3 i hi
   simp [Value.cells] at u1
   rw [u1] at hv; cases hv; exact u2
 · have hi : i < sz := by
     have := (List.getElem?_eq_some_iff.1 hx).1
     simpa using this
   obtain ⟨u, u1, u2, u3⟩ := y3 i hi
   simp [Value.cells] at u1
   rw [u1] at hv; cases hv
   simp [hi] at hx
   subst hx; exact u3
end
theorem yci {P : Program} {f : FuncId} {xs ys : List AV} {r : AV} (h : ∀ h D vs, RL h D zar xs vs -> RL h D zar ys vs) (ha : za7 P f ys r) : za7 P f xs r := fun D w vs hD hx => ha D w vs hD (h _ _ _ hx)
end Sy
end Go.Proofs.YthppjaoicibeiaaGreatDoor
namespace Go.Proofs.YthppjaoicibeiaaGreatDoor
namespace Sy
open Go Go.RowKit
set_option maxRecDepth 100000
set_option linter.unusedSimpArgs false
set_option linter.unusedVariables false
structure Vw (α : Type) where
 sz : Nat
 cell : za8 -> α -> Nat -> AV
 rd : (Nat -> AV) -> α
 ok : (Nat -> AV) -> Prop
 d : α
structure zmz {α : Type} (V : Vw α) : Prop where
 turn : ∀ c, V.ok c -> ∀ j, j < V.sz -> ∀ (h : Array Obj) (D : Nat -> Prop) (μ : Mu) (v : Value), R h D μ (c j) v -> R h D μ (V.cell std (V.rd c) j) v
 back : ∀ c x, (∀ j, j < V.sz -> c j = V.cell std x j) -> V.ok c /\ V.rd c = x
def zgr {α : Type} (V : Vw α) (l : List α) (i : Nat) : α := l.getD i V.d
def zan {α : Type} (l : List α) : Nat := l.length
def yth {α : Type} (L : za8) (V : Vw α) (l : List α) : Nat -> Nat -> AV := fun i j => V.cell L (L (L (zgr V) l) i) j
def zu1 {α : Type} (L : za8) (V : Vw α) (l : List α) : AV := .lst V.sz (L zan l) (yth L V l)
def rdW {α : Type} (V : Vw α) : AV -> List α
 | .lst _ n get => (List.range n).map fun i => V.rd (get i)
 | _ => []
def okW {α : Type} (V : Vw α) : AV -> Prop
 | .lst sz n get => sz = V.sz /\ ∀ i, i < n -> V.ok (get i)
 | .nils => True
 | _ => False
theorem zab {α : Type} {V : Vw α} {l : List α} {i : Nat} (h : i < l.length) : zgr V l i = l[i] := by
 rw [zgr, List.getD_eq_getElem?_getD, List.getElem?_eq_getElem h]; rfl
theorem zik {α : Type} (V : Vw α) (sz n : Nat) (get : Nat -> Nat -> AV) : (rdW V (.lst sz n get)).length = n := by simp [rdW]
theorem zz5 {α : Type} {V : Vw α} {sz n : Nat} {get : Nat -> Nat -> AV} {i : Nat} (h : i < n) : zgr V (rdW V (.lst sz n get)) i = V.rd (get i) := by
 rw [zab (by rw [zik]; exact h)]
 simp [rdW]
theorem znl {α : Type} {V : Vw α} (K : zmz V) {h : Array Obj} {D : Nat -> Prop} {μ : Mu} {x : AV} {v : Value} (ho : okW V x) (r : R h D μ x v) : R h D μ (zu1 std V (rdW V x)) v := by
 match x, ho with
 | .nils, _ => cases r; exact .lst0 _ _ none 0 (fun _ => rfl)
 | .lst sz n get, ho =>
   obtain ⟨rfl, ho⟩ := ho
   have e : zu1 std V (rdW V (.lst V.sz n get)) = .lst V.sz n (yth std V (rdW V (.lst V.sz n get))) := by
     show AV.lst V.sz (zan (rdW V (.lst V.sz n get))) _ = _
     rw [show zan (rdW V (.lst V.sz n get)) = n from zik _ _ _ _]
   rw [e]
   cases r with
   | lst0 _ _ a cap hn => exact .lst0 _ _ a cap hn
   | lst _ _ _ b o cap vs hD hc hv h1 hr =>
     refine .lst _ _ _ b o cap vs hD hc hv h1 (fun i j hi hj => ?_)
     show R h D zar (V.cell std (zgr V (rdW V (.lst V.sz n get)) i) j) (vs i j)
     rw [zz5 hi]
     exact K.turn _ (ho i hi) j hj _ _ _ _ (hr i j hi hj)
theorem zne {α : Type} {V : Vw α} (K : zmz V) {n : Nat} {get : Nat -> Nat -> AV} {l : List α} (hn : n = l.length) (h : ∀ i j, i < n -> j < V.sz -> get i j = V.cell std (zgr V l i) j) : okW V (.lst V.sz n get) /\ rdW V (.lst V.sz n get) = l := by
 subst hn
 refine ⟨⟨rfl, fun i hi => (K.back _ _ (fun j hj => h i j hi hj)).1⟩, ?_⟩
 apply List.ext_getElem
 · rw [zik]
 · intro i h1 h2
   have := zz5 (V := V) (sz := V.sz) (get := get) h2
   rw [zab h1] at this
   rw [this, (K.back _ _ (fun j hj => h i j h2 hj)).2, zab h2]
theorem zcq {α : Type} {V : Vw α} (K : zmz V) (l : List α) : okW V (zu1 std V l) /\ rdW V (zu1 std V l) = l := zne K rfl (fun i j hi hj => rfl)
theorem zjh {α : Type} {V : Vw α} (K : zmz V) {P : Program} {f : FuncId} {x r : AV} {xs : List AV} (ho : okW V x) (h : za7 P f (zu1 std V (rdW V x) :: xs) r) : za7 P f (x :: xs) r :=
 yci (fun hp D vs hr => by
   refine ⟨by rw [<- hr.1]; rfl, fun i z v hz hv => ?_⟩
   cases i with
   | zero => cases hz; exact znl K ho (hr.2 0 x v rfl hv)
   | succ i => exact hr.2 (i + 1) z v hz hv) h
theorem ymn {α : Type} {V : Vw α} (K : zmz V) {P : Program} {f : FuncId} {y x r : AV} {xs : List AV} (ho : okW V x) (h : za7 P f (y :: zu1 std V (rdW V x) :: xs) r) : za7 P f (y :: x :: xs) r :=
 yci (fun hp D vs hr => by
   refine ⟨by rw [<- hr.1]; rfl, fun i z v hz hv => ?_⟩
   match i, hz with
   | 0, hz => exact hr.2 0 z v hz hv
   | 1, hz => cases hz; exact znl K ho (hr.2 1 x v rfl hv)
   | i + 2, hz => exact hr.2 (i + 2) z v hz hv) h
def zvr (x : AV) : List UInt8 := match x with | .str s => s | _ => []
def isS (x : AV) : Prop := ∃ s, x = .str s
def isI (k : IntKind) (x : AV) : Prop := ∃ n, x = .int k n
theorem zwc {x : AV} (h : isS x) {hp : Array Obj} {D : Nat -> Prop} {μ : Mu} {v : Value} (r : R hp D μ x v) : R hp D μ (.str (zvr x)) v := by obtain ⟨s, rfl⟩ := h; exact r
theorem zo1 {k : IntKind} {x : AV} (h : isI k x) {hp : Array Obj} {D : Nat -> Prop} {μ : Mu} {v : Value} (r : R hp D μ x v) : R hp D μ (.int k x.toI) v := by obtain ⟨s, rfl⟩ := h; exact r
def zlp {α : Type} (p : α -> Bool) : List α -> Int
 | [] => -1
 | x :: l => if p x = true then 0 else if zlp p l < 0 then -1 else zlp p l + 1
theorem zfd {α : Type} (p : α -> Bool) : ∀ l : List α, decide (0 <= zlp p l) = l.any p
 | [] => by simp [zlp]
 | x :: l => by
   have ih := zfd p l
   unfold zlp
   by_cases h : p x = true
   · simp [h]
   · have h' : p x = false := by simpa using h
     rw [if_neg h, List.any_cons, h', Bool.false_or, <- ih]
     split
     · rename_i h2; rw [decide_eq_false (by omega), decide_eq_false (by omega)]
     · rename_i h2; rw [decide_eq_true (by omega), decide_eq_true (by omega)]
theorem yal {α : Type} {p : α -> Bool} : ∀ {l : List α} {i : Nat} (hi : i < l.length), (∀ k (hk : k < i), p (l[k]'(by omega)) = false) -> p l[i] = true -> zlp p l = i
 | [], i, hi, _, _ => by simp at hi
 | x :: l, 0, hi, _, h => by simp at h; simp [zlp, h]
 | x :: l, i + 1, hi, h0, h => by
   have hx : p x = false := by simpa using h0 0 (by omega)
   have ih := yal (p := p) (l := l) (i := i) (by simpa using hi) (fun k hk => by have := h0 (k + 1) (by omega); simpa using this) (by simpa using h)
   rw [zlp, if_neg (by rw [hx]; decide), if_neg (by omega), ih]; simp
theorem yak {α : Type} {p : α -> Bool} : ∀ {l : List α}, (∀ x ∈ l, p x = false) -> zlp p l = -1
 | [], _ => rfl
 | x :: l, h => by
   have hx := h x (by simp)
   have ih := yak (p := p) (l := l) (fun y hy => h y (by simp [hy]))
   rw [zlp, if_neg (by rw [hx]; decide), if_pos (by omega)]
def zkl {α : Type} (p : α -> Bool) (l : List α) (i : Nat) : Prop := i <= l.length /\ ∀ x ∈ l.take i, p x = false
theorem ziq {α : Type} (p : α -> Bool) (l : List α) : zkl p l 0 := ⟨Nat.zero_le _, fun x hx => by simp at hx⟩
theorem zdp {α : Type} {V : Vw α} {p : α -> Bool} {l : List α} {i : Nat} (h : zkl p l i) (hi : i < l.length) (hp : p (zgr V l i) = false) : zkl p l (i + 1) := by
 refine ⟨hi, fun x hx => ?_⟩
 rw [List.take_succ_eq_append_getElem hi, List.mem_append] at hx
 rcases hx with hx | hx
 · exact h.2 x hx
 · rw [List.mem_singleton.1 hx, <- zab (V := V) hi]; exact hp
theorem zev {α : Type} {V : Vw α} {p : α -> Bool} {l : List α} {i : Nat} (h : zkl p l i) (hi : i < l.length) (hp : p (zgr V l i) = true) : zlp p l = i := by
 rw [zab hi] at hp
 refine yal hi (fun k hk => h.2 _ ?_) hp
 rw [List.mem_take_iff_getElem]
 exact ⟨k, by omega, rfl⟩
theorem zew {α : Type} {p : α -> Bool} {l : List α} {i : Nat} (h : zkl p l i) (hi : ¬ i < l.length) : zlp p l = -1 := by
 have := h.2
 rw [List.take_of_length_le (by omega)] at this
 exact yak this
theorem zg9 {c : UInt8} : ∀ {u : List UInt8} {v : List UInt8}, (∀ x ∈ u, x ≠ c) -> zaz c (u ++ c :: v) = u :: zaz c v
 | [], v, _ => by simp [zaz]
 | x :: u, v, h => by
   have ih := zg9 (u := u) (v := v) (fun y hy => h y (by simp [hy]))
   rw [List.cons_append, zaz, if_neg (h x (by simp)), ih]
theorem zv2 {c : UInt8} {u : List UInt8} (h : ∀ x ∈ u, x ≠ c) : zaz c u = [u] := zfr fun k hk => h c (List.mem_of_getElem? hk) rfl
theorem ypf {s : List UInt8} {c : UInt8} {m : Nat} (h0 : ∀ k, k < m -> s[k]? ≠ some c) (h : s[m]? = some c) : Lib.indexByte s c = m := by
 by_cases hn : Lib.indexByte s c < 0
 · exact absurd h (yaj hn m)
 · obtain ⟨h1, h2, h3⟩ := zpj hn
   rcases Nat.lt_trichotomy (Lib.indexByte s c).toNat m with hlt | heq | hgt
   · exact absurd h1 (h0 _ hlt)
   · omega
   · exact absurd h (h2 _ hgt)
theorem yks {u v : List UInt8} {c : UInt8} (h : ∀ x ∈ u, x ≠ c) : Lib.indexByte (u ++ c :: v) c = u.length := by
 refine ypf (fun k hk => ?_) (by simp)
 rw [List.getElem?_append_left hk]
 intro e
 exact h c (List.mem_of_getElem? e) rfl
theorem yln {u v : List UInt8} (h : ∀ x ∈ u, x ≠ 58) : yfy (u ++ 58 :: v) [58] = u /\ ybl (u ++ 58 :: v) [58] = v /\ yq9 (u ++ 58 :: v) [58] = true := by
 have e : ziu (u ++ 58 :: v) [58] = u.length := yks h
 rw [yfy, ybl, yq9, e, if_neg (by omega), if_neg (by omega)]
 refine ⟨by simp, by simp, by simp⟩
theorem ypb {u : List UInt8} (h : u.all isD = true) (c : UInt8) (hc : isD c = false) : ∀ x ∈ u, x ≠ c := by
 intro x hx e
 subst e
 rw [List.all_eq_true.1 h x hx] at hc
 cases hc
theorem zja {n : Int} (c : UInt8) (hc : isD c = false) : ∀ x ∈ zcw n, x ≠ c := ypb (yho n.toNat).1 c hc
def zpm (x : Pl) : List UInt8 := zcw x.a ++ 46 :: (zcw x.b ++ 46 :: (zcw x.c ++ 46 :: zcw x.d))
theorem yik (x : Pl) : plT x = zpm x ++ 58 :: zcw x.p := by simp [plT, zpm]
theorem ykx (x : Pl) : ∀ y ∈ zpm x, y ≠ 58 := by
 have hd : isD 58 = false := by decide
 intro y hy
 simp only [zpm, List.mem_append, List.mem_cons] at hy
 rcases hy with h | rfl | h | rfl | h | rfl | h
 · exact zja 58 hd y h
 · decide
 · exact zja 58 hd y h
 · decide
 · exact zja 58 hd y h
 · decide
 · exact zja 58 hd y h
theorem zwk (x : Pl) : zbg (zpm x) [46] = [zcw x.a, zcw x.b, zcw x.c, zcw x.d] := by
 have hd : isD 46 = false := by decide
 show zaz 46 (zpm x) = _
 rw [zpm, zg9 (zja 46 hd), zg9 (zja 46 hd), zg9 (zja 46 hd), zv2 (zja 46 hd)]
theorem yd4 {n : Int} (h : 0 <= n /\ n <= 255) : zk3 n := ⟨h.1, by omega⟩
theorem yiq {x : Pl} (h : zvx x) : (1 <= x.p -> spE (plT x) = 0 /\ spP (plT x) = x) /\ (x.p = 0 -> spE (plT x) = 4) := by
 obtain ⟨c1, c2, c3⟩ := yln (u := zpm x) (v := zcw x.p) (ykx x)
 rw [<- yik] at c1 c2 c3
 obtain ⟨ha, hb, hc, hd, hp⟩ := h
 have hh : zo3 (plT x) = [zcw x.a, zcw x.b, zcw x.c, zcw x.d] := by rw [zo3, c1, zwk]
 have na := zeu (yd4 ha)
 have nb := zeu (yd4 hb)
 have nc := zeu (yd4 hc)
 have nd := zeu (yd4 hd)
 have np := zeu (n := x.p) ⟨hp.1, by omega⟩
 have hport : zr8 (plT x) = zcw x.p := c2
 have v0 : zlr (plT x) 0 = x.a := by rw [zlr, hh]; exact na.2
 have v1 : zlr (plT x) 1 = x.b := by rw [zlr, hh]; exact nb.2
 have v2 : zlr (plT x) 2 = x.c := by rw [zlr, hh]; exact nc.2
 have v3 : zlr (plT x) 3 = x.d := by rw [zlr, hh]; exact nd.2
 have e0 : ycq (plT x) 0 = 0 := by rw [ycq, hh]; exact na.1
 have e1 : ycq (plT x) 1 = 0 := by rw [ycq, hh]; exact nb.1
 have e2 : ycq (plT x) 2 = 0 := by rw [ycq, hh]; exact nc.1
 have e3 : ycq (plT x) 3 = 0 := by rw [ycq, hh]; exact nd.1
 refine ⟨fun h1 => ?_, fun h0 => if_neg fun hk => ?_⟩
 · have hok : yr6 (plT x) := by
     refine ⟨c3, by rw [hh]; rfl, fun k hk => ?_, by rw [hport]; exact np.1, by rw [hport, np.2]; exact h1, by rw [hport, np.2]; exact hp.2⟩
     match k, hk with
     | 0, _ => exact ⟨e0, by rw [v0]; exact ha.2⟩
     | 1, _ => exact ⟨e1, by rw [v1]; exact hb.2⟩
     | 2, _ => exact ⟨e2, by rw [v2]; exact hc.2⟩
     | 3, _ => exact ⟨e3, by rw [v3]; exact hd.2⟩
   have hE : spE (plT x) = 0 := if_pos hok
   refine ⟨hE, ?_⟩
   rw [spP, if_pos hE, v0, v1, v2, v3, hport, np.2]
 · have := hk.2.2.2.2.1
   rw [hport, np.2, h0] at this
   omega
def zkm : zk0 := (203, fun raw ob => match raw with
 | [.ref id 0] => match ob id with
   | some (.box ty cs) => some ⟨[.ref 500000 0], [(500000, .box ty cs)], True, .ref 500000 0, [(500000, .box ty cs)]⟩
   | _ => none
 | _ => none)
theorem zmd : zdd Tryz.prog zkm := by
 intro raw ob T hT hp
 unfold zkm at hT
 simp only at hT
 split at hT
 · split at hT
   · cases hT
     intro D w μ vs hD hxs hdom hobs hinj hown hg hgb
     obtain ⟨v, hv⟩ : ∃ v, vs.toList = [v] := List.length_eq_one_iff.1 (by simpa using hxs.1.symm)
     have : vs = #[v] := by rw [<- Array.toArray_toList (xs := vs), hv]
     subst this
     unfold zfm
     rw [show zkm.fst = 203 from rfl, run_callFunc_extern (fn := Tryz.f203) rfl (by kernel_rfl) (by kernel_rfl) (by kernel_rfl) (e := Extern.AbiNoEscape.same) (by kernel_rfl)]
     rw [Lib.run_noEscape]
     exact ⟨v, D, μ, { ret := rfl, os := rfl, tape := rfl, output := rfl, size := Nat.le_refl _, old := fun _ _ _ => rfl, up := fun _ h => h, dn := fun _ h => .inl h, dom := hdom, obs := hobs, inj := hinj, own := fun n b z h => ⟨(hown n b z h).1, (hown n b z h).2, .inr ⟨n, z, h⟩⟩, keep := fun _ _ _ => rfl, val := hxs.2 0 _ _ rfl rfl }⟩
   · cases hT
 · cases hT
def ylz : zk0 := (179, fun raw ob => match raw with
 | [.ref id 0] => match ob id with
   | some (.box _ [.nilp, .nils]) => some ⟨[.ref 500000 0], [(500000, .box 172 [.nilp, .nils])], True, .tup [], [(500000, .box 172 [.ref 500000 0, .nils])]⟩
   | some (.box _ [.ref _ 0, .sl k 1 0 n]) => match ob k with
     | some (.row _ 1 m get) => some ⟨[.ref 500000 0], [(500000, .box 172 [.ref 500000 0, .sl 500001 1 0 m]), (500001, .row 5 1 m get)], True, .tup [], [(500000, .box 172 [.ref 500000 0, .sl 500001 1 0 m]), (500001, .row 5 1 m get)]⟩
     | _ => none
   | _ => none
 | _ => none)
theorem yqg : zbh Tryz.prog 179 [.ref 500000 0] [(500000, .box 172 [.nilp, .nils])] (.tup []) [(500000, .box 172 [.ref 500000 0, .nils])] := by
 refine zal (T := tt) (S := fun L => zbw [] [zkm]) (lo := noA) (lb := noA) 5 (fn := Tryz.f179) (xs := fun L => [.ref 500000 0]) (rts := fun _ => []) (O := fun L => [(500000, .box 172 [.nilp, .nils])]) (O1 := fun L => [(500000, .box 172 [.ref 500000 0, .nils])])
   rfl rfl (by kernel_rfl) (by kernel_rfl) (by kernel_rfl) za9 (zap trivial ⟨zmd, trivial⟩) (by kernel_rfl) ?_
 intro L P' Q' hL hP hQ
 (cbv; try simp only [syT, true_and, and_true])
 exact ⟨fun _ => trivial, fun h => by cases h⟩
theorem yqf (m : Nat) (get : Nat -> Nat -> AV) : zbh Tryz.prog 179 [.ref 500000 0] [(500000, .box 172 [.ref 500000 0, .sl 500001 1 0 m]), (500001, .row 5 1 m get)] (.tup []) [(500000, .box 172 [.ref 500000 0, .sl 500001 1 0 m]), (500001, .row 5 1 m get)] := by
 refine zal (T := tt) (S := fun L => zbw [] [zkm]) (lo := noA) (lb := noA) 5 (fn := Tryz.f179) (xs := fun L => [.ref 500000 0]) (rts := fun _ => []) (O := fun L => [(500000, .box 172 [.ref 500000 0, .sl 500001 1 0 m]), (500001, .row 5 1 m get)]) (O1 := fun L => [(500000, .box 172 [.ref 500000 0, .sl 500001 1 0 m]), (500001, .row 5 1 m get)])
   rfl rfl (by kernel_rfl) (by kernel_rfl) (by kernel_rfl) za9 (zap trivial ⟨zmd, trivial⟩) (by kernel_rfl) ?_
 intro L P' Q' hL hP hQ
 (cbv; try simp only [syT, true_and, and_true])
 subst hL
 simp [std]
theorem zle : zdd Tryz.prog ylz := by
 intro raw ob T hT hp
 unfold ylz at hT
 simp only at hT
 repeat' split at hT
 all_goals first | (cases hT; done) | (cases hT; exact yqg) | (cases hT; exact yqf _ _)
def bld (L : za8) (l : List UInt8) : List (Nat × Ob) := [(500000, .box 172 [.ref 500000 0, .sl 500001 1 0 (L lenN l)]), (500001, .row 5 1 (L lenN l) (fun i _ => .int .u8 (L2 L zad l i)))]
def zsj (L : za8) (l : List UInt8) : List (Nat × Ob) := [(500000, .box 172 [.ref 500000 0, .sl 7 1 0 (L lenN l)]), (7, .row 5 1 (L lenN l) (fun i _ => .int .u8 (L2 L zad l i)))]
def yn9 : List (Nat × Ob) := [(500000, .box 172 [.nilp, .nils])]
def yc8 (L : za8) (ob : Nat -> Option Ob) (id : Nat) : Option (Option (List UInt8)) := match ob id with
 | some (.box _ [.nilp, .nils]) => some none
 | some (.box _ [.ref _ 0, .sl k 1 0 n]) => match ob k with
   | some (.row _ 1 m get) => some (some (L2 L zbf m (fun i => (get i 0).toI)))
   | _ => none
 | _ => none
def zaa (l m : List UInt8) : List UInt8 := l ++ m
def zc4 (c : Int) : List UInt8 := [UInt8.ofNat c.toNat]
def ynn (c : Int) : Prop := 0 <= c /\ c < 256
def zf6 (l m : List UInt8) : Prop := l.length + m.length <= 90000000
def yr0 (L : za8) : zk0 := (169, fun raw ob => match raw with
 | [.ref id 0, .int .u8 c] => match yc8 L ob id with
   | some none => some ⟨[.ref 500000 0, .int .u8 c], yn9, L ynn c, .dead, zsj L (L zc4 c)⟩
   | some (some l) => some ⟨[.ref 500000 0, .int .u8 c], bld L l, L ynn c /\ L2 L zf6 l (L zc4 c), .dead, zsj L (L2 L zaa l (L zc4 c))⟩
   | none => none
 | _ => none)
def yqz (L : za8) : zk0 := (140, fun raw ob => match raw with
 | [.ref id 0, .str s] => match yc8 L ob id with
   | some (some l) => some ⟨[.ref 500000 0, .str s], bld L l, L2 L zf6 l s, .tup [.int .i64 (L slen s), .dead], zsj L (L2 L zaa l s)⟩
   | _ => none
 | _ => none)
def yu0 (L : za8) : zk0 := (126, fun raw ob => match raw with
 | [.ref id 0] => match yc8 L ob id with
   | some (some l) => some ⟨[.ref 500000 0], bld L l, L (fun l => l ≠ [] /\ l.length <= 90000000) l, .str l, []⟩
   | _ => none
 | _ => none)
def yu1 (L : za8) : zk0 := (125, fun raw ob => match raw with
 | [.ref id 0] => match yc8 L ob id with
   | some (some l) => some ⟨[.ref 500000 0], bld L l, True, .int .i64 (L slen l), bld L l⟩
   | _ => none
 | _ => none)
theorem zup {l m : List UInt8} {i : Nat} (h : i < l.length) : zad (l ++ m) i = zad l i := by
 simp [zad, List.getElem?_append_left h]
theorem zuo {l m : List UInt8} {i : Nat} (h : ¬ i < l.length) : zad (l ++ m) i = zad m (i - l.length) := by
 simp [zad, List.getElem?_append_right (show l.length <= i by omega)]
theorem zgm (l : List UInt8) : zbf l.length (fun i => zad l i) = l := by
 apply List.ext_getElem
 · simp [zbf]
 · intro i h1 h2
   simp [zbf, zad, h2]
theorem zuq {c : Int} (hc : ynn c) (i : Nat) (h : i < 1) : zdc [c] i = zad (zc4 c) i := by
 have : i = 0 := by omega
 subst this
 obtain ⟨h0, h1⟩ := hc
 simp [zdc, zad, zc4, UInt8.toNat_ofNat']
 omega
theorem ynh (c : Int) (hc : ynn c) : zbh Tryz.prog 169 [.ref 500000 0, .int .u8 c] yn9 .dead (zsj std (zc4 c)) := by
 refine zal (T := tt) (S := fun L => zbw [] [ylz]) (lo := noA) (lb := noA) 5 (fn := Tryz.f169) (xs := fun L => [.ref 500000 0, .int .u8 c]) (rts := fun _ => [.dead]) (O := fun L => yn9) (O1 := fun L => zsj L (L zc4 c))
   rfl rfl (by kernel_rfl) (by kernel_rfl) (by kernel_rfl) za9 (zap trivial ⟨zle, trivial⟩) (by kernel_rfl) ?_
 intro L P' Q' hL hP hQ
 (cbv; try simp only [syT, true_and, and_true])
 subst hL
 simp only [L2, L3, std, zjj]
 have h1 : lenN (zc4 c) = 1 := rfl
 rw [h1]
 exact ⟨by omega, ⟨rfl, fun i j hi hj => by rw [show Nat.add 0 i = i from Nat.zero_add i, zuq hc i hi]⟩, rfl⟩
theorem yng (l : List UInt8) (c : Int) (hc : ynn c) (hl : zf6 l (zc4 c)) : zbh Tryz.prog 169 [.ref 500000 0, .int .u8 c] (bld std l) .dead (zsj std (zaa l (zc4 c))) := by
 refine zal (T := tt) (S := fun L => zbw [] [ylz]) (lo := noA) (lb := noA) 5 (fn := Tryz.f169) (xs := fun L => [.ref 500000 0, .int .u8 c]) (rts := fun _ => [.dead]) (O := fun L => bld L l) (O1 := fun L => zsj L (L2 L zaa l (L zc4 c)))
   rfl rfl (by kernel_rfl) (by kernel_rfl) (by kernel_rfl) za9 (zap trivial ⟨zle, trivial⟩) (by kernel_rfl) ?_
 intro L P' Q' hL hP hQ
 (cbv; try simp only [syT, true_and, and_true])
 subst hL
 simp only [L2, L3, std, zjj]
 have h1 : lenN (zaa l (zc4 c)) = l.length + 1 := by simp [lenN, zaa, zc4]
 have h2 : (zc4 c).length = 1 := rfl
 have hl : l.length + (zc4 c).length <= 90000000 := hl
 have h3 : lenN l = l.length := rfl
 rw [h1, h3]
 refine ⟨fun _ _ _ _ => trivial, by omega, ⟨rfl, fun i j hi hj => ?_⟩, rfl⟩
 by_cases h : i < l.length
 · rw [zlf h, show zaa l (zc4 c) = l ++ zc4 c from rfl, zup h]; rfl
 · rw [zoh h, show zaa l (zc4 c) = l ++ zc4 c from rfl, zuo h]
   show AV.int .u8 (zdc [c] (Nat.add 0 (i - l.length))) = _
   rw [show Nat.add 0 (i - l.length) = i - l.length from Nat.zero_add _, zuq hc _ (by omega)]
theorem ynb (l s : List UInt8) (hl : zf6 l s) : zbh Tryz.prog 140 [.ref 500000 0, .str s] (bld std l) (.tup [.int .i64 (slen s), .dead]) (zsj std (zaa l s)) := by
 refine zal (T := tt) (S := fun L => zbw [] [ylz]) (lo := noA) (lb := noA) 5 (fn := Tryz.f140) (xs := fun L => [.ref 500000 0, .str s]) (rts := fun L => [.int .i64 (L slen s), .dead]) (O := fun L => bld L l) (O1 := fun L => zsj L (L2 L zaa l s))
   rfl rfl (by kernel_rfl) (by kernel_rfl) (by kernel_rfl) za9 (zap trivial ⟨zle, trivial⟩) (by kernel_rfl) ?_
 intro L P' Q' hL hP hQ
 (cbv; try simp only [syT, true_and, and_true])
 subst hL
 simp only [L2, L3, std, zjj]
 have h1 : lenN (zaa l s) = l.length + s.length := by simp [lenN, zaa]
 have hl : l.length + s.length <= 90000000 := hl
 have h3 : lenN l = l.length := rfl
 rw [h1, h3]
 refine ⟨fun _ _ _ _ => trivial, by omega, ⟨rfl, fun i j hi hj => ?_⟩, rfl⟩
 by_cases h : i < l.length
 · rw [zlf h, show zaa l s = l ++ s from rfl, zup h]; rfl
 · rw [zoh h, show zaa l s = l ++ s from rfl, zuo h]; rfl
theorem yqo (l : List UInt8) (h0 : l ≠ []) (hl : l.length <= 90000000) : zbh Tryz.prog 126 [.ref 500000 0] (bld std l) (.str l) [] := by
 refine zal (T := tt) (S := fun L => zbw [] [ylz]) (lo := noA) (lb := noA) 5 (fn := Tryz.f126) (xs := fun L => [.ref 500000 0]) (rts := fun L => [.str l]) (O := fun L => bld L l) (O1 := fun L => [])
   rfl rfl (by kernel_rfl) (by kernel_rfl) (by kernel_rfl) za9 (zap trivial ⟨zle, trivial⟩) (by kernel_rfl) ?_
 intro L P' Q' hL hP hQ
 (cbv; try simp only [syT, true_and, and_true])
 subst hL
 simp only [L2, L3, std]
 have h3 : lenN l = l.length := rfl
 have h1 : 0 < l.length := List.length_pos_iff.2 h0
 refine ⟨zlf h1, ⟨by show (0 : Int) < (l.length : Int); omega, by show (l.length : Int) <= (l.length : Int); omega, by show (l.length : Int) <= _; omega, fun i hi => ⟨_, rfl, ?_, ?_⟩⟩, zgm l⟩
 · simp [zad]
 · have := UInt8.toNat_lt (l.getD i 0)
   show ((l.getD i 0).toNat : Int) < 256
   omega
theorem yqp (l : List UInt8) : zbh Tryz.prog 125 [.ref 500000 0] (bld std l) (.int .i64 (slen l)) (bld std l) := by
 refine zal (T := tt) (S := fun L => zbw [] [ylz]) (lo := noA) (lb := noA) 5 (fn := Tryz.f125) (xs := fun L => [.ref 500000 0]) (rts := fun L => [.int .i64 (L slen l)]) (O := fun L => bld L l) (O1 := fun L => bld L l)
   rfl rfl (by kernel_rfl) (by kernel_rfl) (by kernel_rfl) za9 (zap trivial ⟨zle, trivial⟩) (by kernel_rfl) ?_
 intro L P' Q' hL hP hQ
 (cbv; try simp only [syT, true_and, and_true])
 subst hL
 exact ⟨fun _ _ _ _ => trivial, rfl⟩
theorem zxv : zdd Tryz.prog (yr0 std) := by
 intro raw ob T hT hp
 unfold yr0 at hT
 simp only at hT
 repeat' split at hT
 all_goals first | (cases hT; done) | (cases hT; exact ynh _ hp) | (cases hT; exact yng _ _ hp.1 hp.2)
theorem zxo : zdd Tryz.prog (yqz std) := by
 intro raw ob T hT hp
 unfold yqz at hT
 simp only at hT
 repeat' split at hT
 all_goals first | (cases hT; done) | (cases hT; exact ynb _ _ hp)
theorem ymf : zdd Tryz.prog (yu0 std) := by
 intro raw ob T hT hp
 unfold yu0 at hT
 simp only at hT
 repeat' split at hT
 all_goals first | (cases hT; done) | (cases hT; exact yqo _ hp.1 hp.2)
theorem ymh : zdd Tryz.prog (yu1 std) := by
 intro raw ob T hT hp
 unfold yu1 at hT
 simp only at hT
 repeat' split at hT
 all_goals first | (cases hT; done) | (cases hT; exact yqp _)
inductive CV where
 | mk (k n : Int) (s : List UInt8) (l : List CV)
namespace CV
def kd : CV -> Int
 | mk k _ _ _ => k
def nn : CV -> Int
 | mk _ n _ _ => n
def tx : CV -> List UInt8
 | mk _ _ s _ => s
def ls : CV -> List CV
 | mk _ _ _ l => l
theorem eta (v : CV) : mk v.kd v.nn v.tx v.ls = v := by cases v; rfl
end CV
def zdh (l : List CV) (i : Nat) : CV := l.getD i (.mk 0 0 [] [])
def lenL (l : List CV) : Nat := l.length
def zlo (v : CV) : Nat := v.ls.length
def sizeC : CV -> Nat
 | .mk _ _ _ l => sizeCs l + 1
where sizeCs : List CV -> Nat
 | [] => 0
 | v :: l => sizeC v + sizeCs l
abbrev sizeCs := sizeC.sizeCs
theorem zcf : sizeCs [] = 0 := by simp [sizeC.sizeCs]
theorem zbk (v : CV) (l : List CV) : sizeCs (v :: l) = sizeC v + sizeCs l := by simp [sizeC.sizeCs]
theorem zcn (k n : Int) (s : List UInt8) (l : List CV) : sizeC (.mk k n s l) = sizeCs l + 1 := by rw [sizeC]
theorem zep (v : CV) : 0 < sizeC v := by cases v; rw [zcn]; omega
theorem zk8 : ∀ (l : List CV) (i : Nat), i < l.length -> sizeC (zdh l i) <= sizeCs l
 | [], i, h => by simp at h
 | v :: l, 0, h => by rw [zbk]; show sizeC v <= _; omega
 | v :: l, i + 1, h => by
   have := zk8 l i (by simpa using h)
   rw [zbk]
   show sizeC (zdh l i) <= _
   omega
theorem ztm {l : List CV} {i : Nat} (h : i < l.length) : zdh l i ∈ l := by
 rw [zdh, List.getD_eq_getElem?_getD, List.getElem?_eq_getElem h]; exact List.getElem_mem h
theorem yhp {p : CV -> Prop} (h : ∀ k n s l, (∀ v ∈ l, p v) -> p (.mk k n s l)) : ∀ (m : Nat) (v : CV), sizeC v <= m -> p v
 | 0, v, hv => by have := zep v; omega
 | m + 1, .mk k n s l, hv => h k n s l fun w hw => by
   rw [zcn] at hv
   obtain ⟨i, hi, rfl⟩ := List.getElem_of_mem hw
   have := zk8 l i hi
   have e : zdh l i = l[i] := by rw [zdh, List.getD_eq_getElem?_getD, List.getElem?_eq_getElem hi]; rfl
   rw [e] at this
   exact yhp h m _ (by omega)
theorem ybi {p : CV -> Prop} (h : ∀ k n s l, (∀ v ∈ l, p v) -> p (.mk k n s l)) (v : CV) : p v := yhp h _ v (Nat.le_refl _)
def dflC : Nat -> AV
 | 0 => .int .i64 0
 | 1 => .int .u64 0
 | 2 => .str []
 | _ => .lst 4 0 (fun _ _ => .dead)
mutual
def ze5 : CV -> Nat -> AV
 | .mk k n s l, j => match j with
   | 0 => .int .i64 k
   | 1 => .int .u64 n
   | 2 => .str s
   | _ => .lst 4 l.length (zi0 l)
def zi0 : List CV -> Nat -> Nat -> AV
 | [], _, j => dflC j
 | v :: l, i, j => match i with
   | 0 => ze5 v j
   | i + 1 => zi0 l i j
end
theorem zfi (v : CV) : ze5 v 0 = .int .i64 v.kd := by cases v; rw [ze5]; rfl
theorem zfh (v : CV) : ze5 v 1 = .int .u64 v.nn := by cases v; rw [ze5]; rfl
theorem zfg (v : CV) : ze5 v 2 = .str v.tx := by cases v; rw [ze5]; rfl
theorem zff (v : CV) : ze5 v 3 = .lst 4 v.ls.length (zi0 v.ls) := by cases v; rw [ze5] <;> first | rfl | (intro h; cases h)
theorem zbs : ∀ (l : List CV) (i j : Nat), i < l.length -> zi0 l i j = ze5 (zdh l i) j
 | [], i, j, h => by simp at h
 | v :: l, 0, j, h => by rw [zi0]; rfl
 | v :: l, i + 1, j, h => by rw [zi0]; exact zbs l i j (by simpa using h)
def zjw (v : CV) : Nat -> Nat -> AV := zi0 v.ls
def cv1 (L : za8) (v : CV) : Nat -> AV
 | 0 => .int .i64 (L CV.kd v)
 | 1 => .int .u64 (L CV.nn v)
 | 2 => .str (L CV.tx v)
 | _ => .lst 4 (L zlo v) (L zjw v)
theorem zsa (v : CV) (j : Nat) (h : j < 4) : cv1 std v j = ze5 v j := by
 match j, h with
 | 0, _ => rw [zfi]; rfl
 | 1, _ => rw [zfh]; rfl
 | 2, _ => rw [zfg]; rfl
 | 3, _ => rw [zff]; rfl
def cvL (L : za8) (l : List CV) : AV := .lst 4 (L lenL l) (fun i j => cv1 L (L2 L zdh l i) j)
def cvA (L : za8) (v : CV) : AV := .agg [.int .i64 (L CV.kd v), .int .u64 (L CV.nn v), .str (L CV.tx v), .lst 4 (L zlo v) (L zjw v)]
def rdL : AV -> List CV
 | .lst _ n get => (List.range n).map fun i => .mk (get i 0).toI (get i 1).toI (match get i 2 with | .str s => s | _ => []) (rdL (get i 3))
 | _ => []
def okL : AV -> Prop
 | .lst sz n get => sz = 4 /\ ∀ i, i < n -> (∃ x, get i 0 = .int .i64 x) /\ (∃ x, get i 1 = .int .u64 x) /\ (∃ x, get i 2 = .str x) /\ okL (get i 3)
 | .nils => True
 | _ => False
theorem zkd (sz n : Nat) (get : Nat -> Nat -> AV) : (rdL (.lst sz n get)).length = n := by simp [rdL]
theorem zt9 {sz n : Nat} {get : Nat -> Nat -> AV} {i : Nat} (h : i < n) : zdh (rdL (.lst sz n get)) i = .mk (get i 0).toI (get i 1).toI (match get i 2 with | .str s => s | _ => []) (rdL (get i 3)) := by
 rw [zdh, List.getD_eq_getElem?_getD, rdL]
 simp [h]
theorem yhq {a b : List CV} (h : a.length = b.length) (k : ∀ i, i < a.length -> zdh a i = zdh b i) : a = b := by
 apply List.ext_getElem h
 intro i h1 h2
 have := k i h1
 rw [zdh, zdh, List.getD_eq_getElem?_getD, List.getD_eq_getElem?_getD, List.getElem?_eq_getElem h1, List.getElem?_eq_getElem h2] at this
 exact this
theorem yjd : ∀ v : CV, rdL (ze5 v 3) = v.ls /\ okL (ze5 v 3) := by
 refine ybi fun k n s l ih => ?_
 rw [zff]
 show rdL (.lst 4 l.length (zi0 l)) = l /\ okL (.lst 4 l.length (zi0 l))
 refine ⟨yhq (zkd _ _ _) fun i hi => ?_, rfl, fun i hi => ?_⟩
 · rw [zkd] at hi
   rw [zt9 hi, zbs _ _ _ hi, zbs _ _ _ hi, zbs _ _ _ hi, zbs _ _ _ hi, zfi, zfh, zfg, (ih _ (ztm hi)).1]
   exact CV.eta _
 · rw [zbs _ _ _ hi, zbs _ _ _ hi, zbs _ _ _ hi, zbs _ _ _ hi, zfi, zfh, zfg]
   exact ⟨⟨_, rfl⟩, ⟨_, rfl⟩, ⟨_, rfl⟩, (ih _ (ztm hi)).2⟩
theorem zke (v : CV) : rdL (.lst 4 (zlo v) (zjw v)) = v.ls /\ okL (.lst 4 (zlo v) (zjw v)) := by
 have := yjd v
 rw [zff] at this
 exact this
theorem zz4 (l : List CV) : rdL (cvL std l) = l /\ okL (cvL std l) := by
 refine ⟨yhq (zkd _ _ _) fun i hi => ?_, rfl, fun i hi => ⟨⟨_, rfl⟩, ⟨_, rfl⟩, ⟨_, rfl⟩, (zke _).2⟩⟩
 have hi : i < l.length := by rw [show (rdL (cvL std l)).length = lenL l from zkd _ _ _] at hi; exact hi
 show zdh (rdL (.lst 4 (lenL l) _)) i = _
 rw [zt9 (show i < lenL l from hi)]
 show CV.mk (zdh l i).kd (zdh l i).nn (zdh l i).tx (rdL (.lst 4 (zlo (zdh l i)) (zjw (zdh l i)))) = _
 rw [(zke _).1, CV.eta]
theorem yoe {h : Array Obj} {D : Nat -> Prop} : ∀ (x : AV) {μ : Mu} {v : Value}, okL x -> R h D μ x v -> R h D μ (.lst 4 (rdL x).length (zi0 (rdL x))) v := by
 intro x μ v ho r
 induction r with
 | nils => exact .lst0 _ _ _ _ (fun _ => rfl)
 | lst0 sz get a cap hn => exact .lst0 _ _ _ _ hn
 | lst sz n get b o cap vs hD hc hv h1 hr ih =>
   obtain ⟨rfl, ho⟩ := ho
   rw [zkd]
   refine .lst _ _ _ b o cap vs hD hc hv h1 (fun i j hi hj => ?_)
   rw [zbs _ _ _ (by rw [zkd]; exact hi), zt9 hi]
   obtain ⟨⟨x0, e0⟩, ⟨x1, e1⟩, ⟨x2, e2⟩, o3⟩ := ho i hi
   have hj' := hr i j hi hj
   match j, hj with
   | 0, _ => rw [zfi]; rw [e0] at hj' |-; exact hj'
   | 1, _ => rw [zfh]; rw [e1] at hj' |-; exact hj'
   | 2, _ => rw [zfg]; rw [e2] at hj' |-; exact hj'
   | 3, _ => rw [zff]; exact ih i 3 hi (by omega) o3
 | _ => exact ho.elim
theorem yq8 {h : Array Obj} {D : Nat -> Prop} {μ : Mu} {l : List CV} {v : Value} (r : R h D μ (.lst 4 l.length (zi0 l)) v) : R h D μ (cvL std l) v :=
 znt r fun i j hi hj => by
   rw [zbs _ _ _ hi]
   exact (zsa _ j hj).symm
mutual
def zcx : CV -> Int
 | .mk k _ _ l => if k = 3 then zau l + 1 else 0
def zau : List CV -> Int
 | [] => 0
 | v :: l => max (zcx v) (zau l)
end
theorem zmq : ∀ a b : List CV, zau (a ++ b) = max (zau a) (zau b)
 | [], b => by
   rw [List.nil_append, zau]
   have : ∀ b : List CV, 0 <= zau b := by
     intro b
     induction b with
     | nil => rw [zau]; omega
     | cons v l ih => rw [zau]; omega
   have := this b
   omega
 | v :: a, b => by rw [List.cons_append, zau, zmq a b, zau]; omega
theorem zsw {l : List CV} {i : Nat} (h : i < l.length) : l.take (i + 1) = l.take i ++ [zdh l i] := by
 rw [List.take_succ_eq_append_getElem h, zdh, List.getD_eq_getElem?_getD, List.getElem?_eq_getElem h]; rfl
def zgw (l : List CV) (i : Nat) : Int := zau (l.take i)
theorem zs8 {l : List CV} {i : Nat} (h : i < l.length) : zgw l (i + 1) = max (zgw l i) (zcx (zdh l i)) := by
 unfold zgw
 rw [zsw h, zmq, zau, zau]
 have : 0 <= zcx (zdh l i) \/ True := .inr trivial
 have h0 : ∀ b : List CV, 0 <= zau b := by
   intro b
   induction b with
   | nil => rw [zau]; omega
   | cons v l ih => rw [zau]; omega
 have := h0 (l.take i)
 omega
mutual
def ze6 : CV -> Bool
 | .mk k n s l => if k = 1 then decide (s = []) && l.isEmpty else if k = 2 then decide (n = 0) && l.isEmpty else if k = 3 then decide (n = 0) && decide (s = []) && zc2 l else false
def zc2 : List CV -> Bool
 | [] => true
 | v :: l => ze6 v && zc2 l
end
def zfo (k : Int) : List UInt8 := [UInt8.ofNat (k % 256).toNat]
mutual
def zbi : CV -> List UInt8
 | .mk k n s l => zfo k ++ if k = 1 then zaw n else if k = 2 then zaw s.length ++ s else zaw l.length ++ zas l
def zas : List CV -> List UInt8
 | [] => []
 | v :: l => zbi v ++ zas l
end
theorem zid : ∀ a b : List CV, zas (a ++ b) = zas a ++ zas b
 | [], b => by rw [zas]; rfl
 | v :: a, b => by rw [List.cons_append, zas, zid a b, zas, List.append_assoc]
def zgv (l : List CV) (i : Nat) : List UInt8 := zas (l.take i)
theorem zdt {l : List CV} {i : Nat} (h : i < l.length) : zgv l (i + 1) = zgv l i ++ zbi (zdh l i) := by
 unfold zgv
 rw [zsw h, zid, zas, zas, List.append_nil]
def mkV (L : za8) (k n : Int) (s : List UInt8) (x : AV) : CV := L (L (L (L CV.mk k) n) s) (L rdL x)
def zor (N : Nat) (v : CV) : Prop := sizeC v <= N /\ N <= 1000000
def zqu (N : Nat) (l : List CV) : Prop := sizeCs l <= N /\ N <= 1000000
theorem zmi : ∀ l : List CV, l.length <= sizeCs l
 | [] => by simp
 | v :: l => by
   have := zmi l
   have := zep v
   rw [zbk, List.length_cons]; omega
theorem ztk {N : Nat} {l : List CV} {i : Nat} (h : zqu N l) (hi : i < l.length) : zor N (zdh l i) := by
 have := zk8 l i hi
 exact ⟨by have := h.1; omega, h.2⟩
theorem zcc {N : Nat} {k n : Int} {s : List UInt8} {l : List CV} : zor (N + 1) (.mk k n s l) = (zqu N l /\ N + 1 <= 1000000) := by
 unfold zor zqu
 rw [zcn]
 exact propext ⟨fun h => ⟨⟨by omega, by omega⟩, by omega⟩, fun h => ⟨by have := h.1.1; omega, h.2⟩⟩
theorem zdi (v : CV) : CV.mk v.kd v.nn v.tx (rdL (.lst 4 (zlo v) (zjw v))) = v := by rw [(zke v).1]; exact CV.eta v
theorem zbx (v : CV) : mkV std v.kd v.nn v.tx (.lst 4 (zlo v) (zjw v)) = v := zdi v
theorem rdl (l : List CV) : rdL (.lst 4 (lenL l) fun i => cv1 std (zdh l i)) = l := (zz4 l).1
theorem okl (l : List CV) : okL (.lst 4 (lenL l) fun i => cv1 std (zdh l i)) := (zz4 l).2
theorem mkl (k n : Int) (s : List UInt8) (l : List CV) : mkV std k n s (.lst 4 (lenL l) fun i => cv1 std (zdh l i)) = .mk k n s l := by
 show CV.mk k n s (rdL _) = _
 rw [rdl]
theorem yia {h : Array Obj} {D : Nat -> Prop} {μ : Mu} {a b c x : AV} {v : Value} (ho : okL x) (r : R h D μ (.agg [a, b, c, x]) v) : R h D μ (.agg [a, b, c, cvL std (rdL x)]) v := by
 obtain ⟨us, rfl, o1, s1, hr⟩ := r.inv_agg
 refine .agg _ _ (by rw [<- s1]; rfl) o1 fun i y v hy hv => ?_
 match i, hy with
 | 0, hy => cases hy; exact hr 0 _ v rfl hv
 | 1, hy => cases hy; exact hr 1 _ v rfl hv
 | 2, hy => cases hy; exact hr 2 _ v rfl hv
 | 3, hy => cases hy; exact yq8 (yoe x ho (hr 3 _ v rfl hv))
 | i + 4, hy => simp at hy
theorem yh2 {h : Array Obj} {D : Nat -> Prop} {μ : Mu} {x y : AV} {r : List AV} {vs : Array Value} (e : ∀ v, R h D μ x v -> R h D μ y v) (hr : RL h D μ (x :: r) vs) : RL h D μ (y :: r) vs := by
 refine ⟨by rw [<- hr.1]; rfl, fun i z v hz hv => ?_⟩
 cases i with
 | zero => cases hz; exact e v (hr.2 0 x v rfl hv)
 | succ i => exact hr.2 (i + 1) z v hz hv
theorem yo6 {h : Array Obj} {D : Nat -> Prop} {μ : Mu} {a x y : AV} {r : List AV} {vs : Array Value} (e : ∀ v, R h D μ x v -> R h D μ y v) (hr : RL h D μ (a :: x :: r) vs) : RL h D μ (a :: y :: r) vs := by
 refine ⟨by rw [<- hr.1]; rfl, fun i z v hz hv => ?_⟩
 match i, hz with
 | 0, hz => exact hr.2 0 z v hz hv
 | 1, hz => cases hz; exact e v (hr.2 1 x v rfl hv)
 | i + 2, hz => exact hr.2 (i + 2) z v hz hv
theorem zdl {P : Program} {f : FuncId} {xs ys : List AV} {r : AV} (h : ∀ h D vs, RL h D zar xs vs -> RL h D zar ys vs) (ha : za7 P f ys r) : za7 P f xs r := fun D w vs hD hx => ha D w vs hD (h _ _ _ hx)
theorem yru {P : Program} {f : FuncId} {a b c x r : AV} (ho : okL x) (h : za7 P f [.agg [a, b, c, cvL std (rdL x)]] r) : za7 P f [.agg [a, b, c, x]] r :=
 zdl (fun h D vs hr => yh2 (fun v => yia ho) hr) h
theorem yp1 {h : Array Obj} {D : Nat -> Prop} {μ : Mu} {x : AV} {v : Value} (ho : okL x) (r : R h D μ x v) : R h D μ (cvL std (rdL x)) v := yq8 (yoe x ho r)
theorem yrv {P : Program} {f : FuncId} {x r : AV} {q : List AV} (ho : okL x) (h : za7 P f (cvL std (rdL x) :: q) r) : za7 P f (x :: q) r :=
 zdl (fun h D vs hr => yh2 (fun v => yp1 ho) hr) h
def ytm (L : za8) (l : List CV) : Nat -> St -> Option Ann := fun id s => match id with
 | 0 => some ⟨Nat, fun i => [(12, .int .i64 (L zbd i)), (3, .int .i64 (L2 L zgw l i))], fun i => [], [10, 11], [],
     fun i => L2 L (fun (l : List CV) i => i <= l.length) l i, fun i => L2 L (fun (l : List CV) (i : Nat) => l.length - i) l i⟩
 | _ => none
def zq0 (N : Nat) (L : za8) : zbv := (123, fun xs => match xs with
 | [.agg [.int .i64 k, .int .u64 n, .str s, x]] => some (L okL x /\ L2 L zor N (mkV L k n s x), .int .i64 (L zcx (mkV L k n s x)))
 | _ => none)
theorem yll : ∀ v, 0 <= zcx v /\ zcx v <= (sizeC v : Int) := by
 refine ybi fun k n s l ih => ?_
 have : ∀ m : List CV, (∀ v ∈ m, 0 <= zcx v /\ zcx v <= (sizeC v : Int)) -> 0 <= zau m /\ zau m <= (sizeCs m : Int) := by
   intro m
   induction m with
   | nil => intro _; rw [zau, zcf]; omega
   | cons v m ih =>
     intro h
     have h1 := h v (by simp)
     have h2 := ih fun w hw => h w (by simp [hw])
     rw [zau, zbk]; omega
 have := this l ih
 rw [zcx, zcn]
 split <;> omega
theorem ybh (l : List CV) (i : Nat) : 0 <= zgw l i /\ zgw l i <= (sizeCs l : Int) := by
 have h1 : ∀ m : List CV, 0 <= zau m /\ zau m <= (sizeCs m : Int) := by
   intro m
   induction m with
   | nil => rw [zau, zcf]; omega
   | cons v m ih => have := yll v; rw [zau, zbk]; omega
 have h2 := h1 (l.take i)
 have h3 : ∀ (m : List CV) (i : Nat), sizeCs (m.take i) <= sizeCs m := by
   intro m
   induction m with
   | nil => intro i; simp
   | cons v m ih =>
     intro i
     cases i with
     | zero => rw [List.take_zero, zcf]; omega
     | succ i => have := ih i; rw [List.take_succ_cons, zbk, zbk]; omega
 have := h3 l i
 exact ⟨h2.1, by unfold zgw; omega⟩
theorem ybg : ∀ N, zb6 Tryz.prog (zq0 N std) := by
 intro N
 induction N with
 | zero =>
   intro xs p r h hp
   unfold zq0 at h
   simp only at h
   split at h
   · rename_i k n s x
     cases h
     have h1 : sizeC (mkV std k n s x) <= 0 := hp.2.1
     have := zep (mkV std k n s x)
     omega
   · cases h
 | succ N ih =>
   intro xs p r h hp
   unfold zq0 at h
   simp only at h
   split at h
   · rename_i k n s x
     cases h
     obtain ⟨ho, hz⟩ := hp
     refine yru ho ?_
     show za7 _ _ _ (.int .i64 (zcx (.mk k n s (rdL x))))
     have hz : zor (N + 1) (.mk k n s (rdL x)) := hz
     generalize rdL x = l at hz |-
     refine za4 (T := tt) (S := fun L => zat [zq0 N L]) (lo := fun L => ytm L l) (lb := noA) 5 (fn := Tryz.f123) (xs := fun L => [.agg [.int .i64 k, .int .u64 n, .str s, cvL L l]]) rfl rfl (by kernel_rfl) (by kernel_rfl) rfl za9
       (za3 ⟨ih, trivial⟩) (by kernel_rfl) ?_
     intro L P' Q' hL hP hQ
     (cbv; try simp only [syT, true_and, and_true])
     refine ⟨fun h => ?_, fun h => ⟨⟨0, ?_⟩, fun i hi => ?_⟩⟩
     · (subst hL; subst hQ; simp only [L2, L3, std] at *; try simp only [syS, reduceCtorEq, Int.reduceToNat, Int.reduceAdd, Int.reduceSub] at *)
       rw [zcx, if_neg h]
     · (cbv; try simp only [syT, true_and, and_true])
       (subst hL; subst hQ; simp only [L2, L3, std] at *; try simp only [syS, reduceCtorEq, Int.reduceToNat, Int.reduceAdd, Int.reduceSub] at *)
       exact ⟨by rw [zgw, List.take_zero, zau], Nat.zero_le _⟩
     · cbv at hi
       (cbv; try simp only [syT, true_and, and_true])
       refine ⟨fun hlt => ⟨?_, ⟨?_, ?_⟩, ⟨i + 1, ?_⟩⟩, fun hge => ?_⟩
       · (subst hL; subst hQ; simp only [L2, L3, std] at *; try simp only [syS, reduceCtorEq, Int.reduceToNat, Int.reduceAdd, Int.reduceSub] at *)
         omega
       · (subst hL; subst hQ; simp only [L2, L3, std] at *; try simp only [syS, reduceCtorEq, Int.reduceToNat, Int.reduceAdd, Int.reduceSub] at *)
         exact (zke _).2
       · (subst hL; subst hQ; simp only [L2, L3, std] at *; try simp only [syS, reduceCtorEq, Int.reduceToNat, Int.reduceAdd, Int.reduceSub] at *)
         rw [zdi]
         rw [zcc] at hz
         exact ztk hz.1 (by have : lenL l = l.length := rfl; omega)
       · (cbv; try simp only [syT, true_and, and_true])
         (subst hL; subst hQ; simp only [L2, L3, std] at *; try simp only [syS, reduceCtorEq, Int.reduceToNat, Int.reduceAdd, Int.reduceSub] at *)
         have : lenL l = l.length := rfl
         have := zmi l
         have h1 := hz.1
         have h2 := hz.2
         rw [zcn] at h1
         rw [zbx]
         exact ⟨by rw [zs8 (by omega)], by omega, by omega, by omega⟩
       · (subst hL; subst hQ; simp only [L2, L3, std] at *; try simp only [syS, reduceCtorEq, Int.reduceToNat, Int.reduceAdd, Int.reduceSub] at *)
         have : lenL l = l.length := rfl
         have hil : i = l.length := by omega
         have h3 := ybh l i
         have h1 := hz.1
         have h2 := hz.2
         rw [zcn] at h1
         rw [zcx, if_pos h, hil, zgw, List.take_length]
         rw [hil, zgw, List.take_length] at h3
         omega
   · cases h
theorem zj3 : ∀ l : List CV, zc2 l = true ↔ ∀ i, i < l.length -> ze6 (zdh l i) = true
 | [] => by rw [zc2]; simp
 | v :: l => by
   rw [zc2, Bool.and_eq_true, zj3 l]
   refine ⟨fun ⟨h1, h2⟩ i hi => ?_, fun h => ⟨h 0 (by simp), fun i hi => h (i + 1) (by simpa using hi)⟩⟩
   cases i with
   | zero => exact h1
   | succ i => exact h2 i (by simpa using hi)
def yfc (l : List CV) : Int := if zc2 l = true then -1 else (l.findIdx fun v => !ze6 v : Nat)
def yqq (l : List CV) (i : Nat) : Prop := i <= l.length /\ ∀ j, j < i -> ze6 (zdh l j) = true
theorem yku {l : List CV} {i : Nat} (hi : i < l.length) (h : ∀ j, j < i -> ze6 (zdh l j) = true) (hn : ze6 (zdh l i) = false) : yfc l = (i : Int) := by
 have hb : ¬ zc2 l = true := by
   rw [zj3]
   intro h2
   have := h2 i hi
   rw [hn] at this; cases this
 rw [yfc, if_neg hb]
 congr 1
 rw [List.findIdx_eq hi]
 have get : ∀ (j : Nat) (hj : j < l.length), l[j] = zdh l j := by
   intro j hj
   rw [zdh, List.getD_eq_getElem?_getD, List.getElem?_eq_getElem hj]; rfl
 refine ⟨by rw [get i hi, hn]; rfl, fun j hj => ?_⟩
 have hj' := h j hj
 rw [get j (by omega), hj']; rfl
theorem yfb {l : List CV} (h : ∀ j, j < l.length -> ze6 (zdh l j) = true) : yfc l = -1 := by rw [yfc, if_pos ((zj3 l).2 h)]
theorem ykt (l : List CV) : (0 <= yfc l) = (zc2 l = false) := by
 unfold yfc
 split
 · rename_i h; rw [h]; simp
 · rename_i h; simp at h; rw [h]; simp
def yrs (N : Nat) (L : za8) : zbv := (168, fun xs => match xs with
 | [.agg [.int .i64 k, .int .u64 n, .str s, x]] => some (L okL x /\ L2 L zor N (mkV L k n s x), .bool (L not (L ze6 (mkV L k n s x))))
 | _ => none)
def yrk (N : Nat) (L : za8) : zbv := (194, fun xs => match xs with
 | [x, .fn 168 [] []] => some (L okL x /\ L2 L zqu N (L rdL x), .int .i64 (L yfc (L rdL x)))
 | _ => none)
def ytq (N : Nat) (L : za8) : zbv := (167, fun xs => match xs with
 | [x, .fn 168 [] []] => some (L okL x /\ L2 L zqu N (L rdL x), .bool (L not (L zc2 (L rdL x))))
 | _ => none)
def zmu (N : Nat) (L : za8) : zbv := (122, fun xs => match xs with
 | [.agg [.int .i64 k, .int .u64 n, .str s, x]] => some (L okL x /\ L2 L zor N (mkV L k n s x), .bool (L ze6 (mkV L k n s x)))
 | _ => none)
theorem yt3 (l : List CV) : ieq ((lenL l : Nat) : Int) 0 = l.isEmpty := by
 cases l with
 | nil => rfl
 | cons v l =>
   simp [lenL, ieq]
   omega
theorem ypc (a b : Int) : (ile a b = false) = ¬ a <= b := by simp [ile]
theorem yu2 {N : Nat} (ih : zb6 Tryz.prog (zmu N std)) : zb6 Tryz.prog (yrs N std) := by
 intro xs p r h hp
 unfold yrs at h
 simp only at h
 split at h
 rotate_left
 · cases h
 rename_i k n s x
 cases h
 obtain ⟨ho, hz⟩ := hp
 refine yru ho ?_
 rw [show mkV std k n s x = .mk k n s (rdL x) from rfl] at hz |-
 generalize rdL x = l at hz |-
 have hz : zor N (.mk k n s l) := hz
 refine za4 (xs := fun L => [.agg [.int .i64 k, .int .u64 n, .str s, cvL L l]]) (T := tt) (S := fun L => zat [zmu N L]) (lo := noA) (lb := noA) 5 (fn := Tryz.f168) rfl rfl (by kernel_rfl) (by kernel_rfl) rfl za9 (za3 ⟨ih, trivial⟩) (by kernel_rfl) ?_
 intro L P' Q' hL hP hQ
 (cbv; try simp only [syT, true_and, and_true])
 (subst hL; subst hQ; simp only [L2, L3, std] at *; try simp only [syS, reduceCtorEq, Int.reduceToNat, Int.reduceAdd, Int.reduceSub] at *)
 rw [rdl, mkl]
 exact ⟨⟨okl l, hz⟩, rfl⟩
def ifA (L : za8) (l : List CV) : Nat -> St -> Option Ann := fun id s => match id with
 | 0 => some ⟨Nat, fun i => [(8, .int .i64 (L zbd i))], fun i => [], [0, 1, 6, 7], [],
     fun i => L2 L yqq l i, fun i => L2 L (fun (l : List CV) (i : Nat) => l.length - i) l i⟩
 | _ => none
theorem ytc {N : Nat} (ih : zb6 Tryz.prog (yrs N std)) : zb6 Tryz.prog (yrk N std) := by
 intro xs p r h hp
 unfold yrk at h
 simp only at h
 split at h
 rotate_left
 · cases h
 rename_i x
 cases h
 obtain ⟨ho, hz⟩ := hp
 refine yrv ho ?_
 have hz : zqu N (rdL x) := hz
 show za7 _ _ _ (.int .i64 (yfc (rdL x)))
 generalize rdL x = l at hz |-
 refine za4 (T := tt) (S := fun L => zat [yrs N L]) (lo := fun L => ifA L l) (lb := noA) 5 (fn := Tryz.f194) (xs := fun L => [cvL L l, .fn 168 [] []]) rfl rfl (by kernel_rfl) (by kernel_rfl) rfl za9
   (za3 ⟨ih, trivial⟩) (by kernel_rfl) ?_
 intro L P' Q' hL hP hQ
 (cbv; try simp only [syT, true_and, and_true])
 refine ⟨⟨0, ?_⟩, fun i hi => ?_⟩
 · (cbv; try simp only [syT, true_and, and_true])
   (subst hL; subst hQ; simp only [L2, L3, std] at *; try simp only [syS, reduceCtorEq, Int.reduceToNat, Int.reduceAdd, Int.reduceSub] at *)
   exact ⟨Nat.zero_le _, fun j hj => by omega⟩
 · cbv at hi
   (cbv; try simp only [syT, true_and, and_true])
   refine ⟨fun hlt => ⟨?_, ⟨?_, ?_⟩, fun hb => ?_, fun hb => ⟨i + 1, ?_⟩⟩, fun hge => ?_⟩
   · (subst hL; subst hQ; simp only [L2, L3, std] at *; try simp only [syS, reduceCtorEq, Int.reduceToNat, Int.reduceAdd, Int.reduceSub] at *)
     omega
   · (subst hL; subst hQ; simp only [L2, L3, std] at *; try simp only [syS, reduceCtorEq, Int.reduceToNat, Int.reduceAdd, Int.reduceSub] at *)
     exact (zke _).2
   · (subst hL; subst hQ; simp only [L2, L3, std] at *; try simp only [syS, reduceCtorEq, Int.reduceToNat, Int.reduceAdd, Int.reduceSub] at *)
     rw [zdi]
     exact ztk hz (by have : lenL l = l.length := rfl; omega)
   · (subst hL; subst hQ; simp only [L2, L3, std] at *; try simp only [syS, reduceCtorEq, Int.reduceToNat, Int.reduceAdd, Int.reduceSub] at *)
     rw [zbx] at hb
     exact (yku (by have : lenL l = l.length := rfl; omega) hi.2 hb).symm
   · (cbv; try simp only [syT, true_and, and_true])
     (subst hL; subst hQ; simp only [L2, L3, std] at *; try simp only [syS, reduceCtorEq, Int.reduceToNat, Int.reduceAdd, Int.reduceSub] at *)
     rw [zbx] at hb
     have : lenL l = l.length := rfl
     have := zmi l
     have h1 := hz.1
     have h2 := hz.2
     refine ⟨by omega, ⟨by omega, fun j hj => ?_⟩, by omega⟩
     by_cases e : j = i
     · rw [e]; exact hb
     · exact hi.2 j (by omega)
   · (subst hL; subst hQ; simp only [L2, L3, std] at *; try simp only [syS, reduceCtorEq, Int.reduceToNat, Int.reduceAdd, Int.reduceSub] at *)
     have : lenL l = l.length := rfl
     exact (yfb fun j hj => hi.2 j (by omega)).symm
theorem ytr {N : Nat} (ih : zb6 Tryz.prog (yrk N std)) : zb6 Tryz.prog (ytq N std) := by
 intro xs p r h hp
 unfold ytq at h
 simp only at h
 split at h
 rotate_left
 · cases h
 rename_i x
 cases h
 obtain ⟨ho, hz⟩ := hp
 refine yrv ho ?_
 have hz : zqu N (rdL x) := hz
 show za7 _ _ _ (.bool (not (zc2 (rdL x))))
 generalize rdL x = l at hz |-
 refine za4 (xs := fun L => [cvL L l, .fn 168 [] []]) (T := tt) (S := fun L => zat [yrk N L]) (lo := noA) (lb := noA) 5 (fn := Tryz.f167) rfl rfl (by kernel_rfl) (by kernel_rfl) rfl za9 (za3 ⟨ih, trivial⟩) (by kernel_rfl) ?_
 intro L P' Q' hL hP hQ
 (cbv; try simp only [syT, true_and, and_true])
 (subst hL; subst hQ; simp only [L2, L3, std] at *; try simp only [syS, reduceCtorEq, Int.reduceToNat, Int.reduceAdd, Int.reduceSub] at *)
 rw [rdl]
 refine ⟨⟨okl l, hz⟩, ?_⟩
 have := ykt l
 cases hb : zc2 l with
 | true =>
   rw [hb] at this
   simp only [Bool.true_eq_false, eq_iff_iff, iff_false] at this
   have h : ile 0 (yfc l) = false := by rw [ypc]; exact this
   rw [h]; rfl
 | false =>
   rw [hb] at this
   simp only [eq_iff_iff, iff_true] at this
   simpa [ile] using this
theorem yca : ∀ N, zb6 Tryz.prog (zmu N std) := by
 intro N
 induction N with
 | zero =>
   intro xs p r h hp
   unfold zmu at h
   simp only at h
   split at h
   · rename_i k n s x
     cases h
     have h1 : sizeC (mkV std k n s x) <= 0 := hp.2.1
     have := zep (mkV std k n s x)
     omega
   · cases h
 | succ N ih =>
   intro xs p r h hp
   unfold zmu at h
   simp only at h
   split at h
   rotate_left
   · cases h
   rename_i k n s x
   cases h
   obtain ⟨ho, hz⟩ := hp
   refine yru ho ?_
   rw [show mkV std k n s x = .mk k n s (rdL x) from rfl] at hz |-
   generalize rdL x = l at hz |-
   have hz : zor (N + 1) (.mk k n s l) := hz
   refine za4 (T := tt) (S := fun L => zat [ytq N L]) (lo := noA) (lb := noA) 5 (fn := Tryz.f122) (xs := fun L => [.agg [.int .i64 k, .int .u64 n, .str s, cvL L l]]) rfl rfl (by kernel_rfl) (by kernel_rfl) rfl za9
     (za3 ⟨ytr (ytc (yu2 ih)), trivial⟩) (by kernel_rfl) ?_
   intro L P' Q' hL hP hQ
   (cbv; try simp only [syT, true_and, and_true])
   (subst hL; subst hQ; simp only [L2, L3, std] at *; try simp only [syS, reduceCtorEq, Int.reduceToNat, Int.reduceAdd, Int.reduceSub] at *)
   simp only [rdl, yt3]
   rw [zcc] at hz
   rw [ze6]
   by_cases h1 : k = 1
   · simp [h1]
     exact ⟨fun a _ => a, fun a b => absurd b a⟩
   · by_cases h2 : k = 2
     · simp [h2]
       exact ⟨fun a _ => a, fun a b => absurd b a⟩
     · by_cases h3 : k = 3
       · simp [h3]
         refine ⟨fun h4 => ⟨fun h5 => ⟨⟨okl l, hz.1⟩, by simp [h4, h5]⟩, fun h5 => by simp [h5]⟩, fun h4 => by simp [h4]⟩
       · simp [h1, h2, h3]
theorem zm2 : ∀ (k n : Nat), n < 128 ^ (k + 1) -> (zde n).length <= k + 1
 | 0, n, h => by rw [zb2 (by omega)]; simp
 | k + 1, n, h => by
   by_cases h1 : n < 128
   · rw [zb2 h1]; simp
   · rw [zga (by omega), List.length_cons]
     have := zm2 k (n / 128) (by rw [Nat.div_lt_iff_lt_mul (by omega)]; rw [Nat.pow_succ] at h; exact h)
     omega
theorem zig {n : Int} (h : zco n) : (zaw n).length <= 10 := zm2 9 n.toNat (by
 have := h.2
 have := h.1
 rw [show (128 : Nat) ^ (9 + 1) = 1180591620717411303424 from by decide]
 omega)
mutual
def wfV : CV -> Prop
 | .mk _ n s l => zco n /\ s.length <= 9223372036854775807 /\ zsr l
def zsr : List CV -> Prop
 | [] => True
 | v :: l => wfV v /\ zsr l
end
theorem ygo : ∀ {l : List CV} {i : Nat}, zsr l -> i < l.length -> wfV (zdh l i)
 | [], i, _, h => by simp at h
 | v :: l, 0, w, _ => by rw [zsr] at w; exact w.1
 | v :: l, i + 1, w, h => by rw [zsr] at w; exact ygo (l := l) w.2 (by simpa using h)
theorem zic (l : List CV) : ∀ i, (zgv l i).length <= (zas l).length := by
 intro i
 have := zid (l.take i) (l.drop i)
 rw [List.take_append_drop] at this
 rw [this, List.length_append, zgv]; omega
theorem zai (k n : Int) (s : List UInt8) (l : List CV) : zbi (.mk k n s l) = zfo k ++ if k = 1 then zaw n else if k = 2 then zaw s.length ++ s else zaw l.length ++ zas l := by rw [zbi]
def zy3 (v : CV) : Prop := wfV v /\ (zbi v).length <= 90000000
theorem zxu {k n : Int} {s : List UInt8} {l : List CV} : zy3 (.mk k n s l) = ((zco n /\ s.length <= 9223372036854775807 /\ zsr l) /\ (zbi (.mk k n s l)).length <= 90000000) := by
 unfold zy3; rw [wfV]
theorem zhc {x : Int} (h : 0 <= x) (h1 : x < 18446744073709551616) : x % 18446744073709551616 = x := Int.emod_eq_of_lt h h1
theorem zi9 {k n : Int} {s : List UInt8} {l : List CV} (h : wfV (.mk k n s l)) : (s.length : Int) % 18446744073709551616 = s.length := by
 rw [wfV] at h
 exact zhc (by omega) (by omega)
theorem zla {N : Nat} {k n : Int} {s : List UInt8} {l : List CV} (h : zor (N + 1) (.mk k n s l)) : zco ((l.length : Nat) : Int) := by
 rw [zcc] at h
 have := zmi l
 have h1 := h.1.1
 have h2 := h.1.2
 exact ⟨by omega, by omega⟩
theorem zia {N : Nat} {k n : Int} {s : List UInt8} {l : List CV} (h : zor (N + 1) (.mk k n s l)) : ((lenL l : Nat) : Int) % 18446744073709551616 = ((l.length : Nat) : Int) := by
 have := zla h
 exact zhc this.1 this.2
theorem ygr {k n : Int} {s : List UInt8} {l : List CV} (h : zy3 (.mk k n s l)) (h1 : k ≠ 1) (h2 : k ≠ 2) {i : Nat} (hi : i < l.length) : zy3 (zdh l i) := by
 rw [zxu] at h
 refine ⟨ygo h.1.2.2 hi, ?_⟩
 have h3 := h.2
 have h4 := zdt hi
 have h5 := zic l (i + 1)
 rw [h4, List.length_append] at h5
 rw [zai, if_neg h1, if_neg h2] at h3
 simp only [List.length_append] at h3
 omega
def zng (b : List UInt8) (k : Int) (l : List CV) (i : Nat) : List UInt8 := b ++ zfo k ++ zaw l.length ++ zgv l i
def putA (L : za8) (b : List UInt8) (k : Int) (l : List CV) : Nat -> St -> Option Ann := fun id s => match id with
 | 1 => some ⟨Nat, fun i => [(23, .int .i64 (L zbd i))], fun i => [(500000, .box 172 [.ref 500000 0, .sl 901 1 0 (L lenN (L (L3 L zng b k l) i))]), (901, .row 5 1 (L lenN (L (L3 L zng b k l) i)) (fun j _ => .int .u8 (L2 L zad (L (L3 L zng b k l) i) j)))], [0, 21, 22], [],
     fun i => L2 L (fun (l : List CV) i => i <= l.length) l i, fun i => L2 L (fun (l : List CV) (i : Nat) => l.length - i) l i⟩
 | _ => none
def zp2 (N : Nat) (L : za8) : zk0 := (124, fun raw ob => match raw with
 | [.ref id 0, .agg [.int .i64 k, .int .u64 n, .str s, x]] => match yc8 L ob id with
   | some none => some ⟨[.ref 500000 0, .agg [.int .i64 k, .int .u64 n, .str s, x]], yn9, L okL x /\ L2 L zor N (mkV L k n s x) /\ L zy3 (mkV L k n s x), .tup [], zsj L (L zbi (mkV L k n s x))⟩
   | some (some l) => some ⟨[.ref 500000 0, .agg [.int .i64 k, .int .u64 n, .str s, x]], bld L l, L okL x /\ L2 L zor N (mkV L k n s x) /\ L zy3 (mkV L k n s x) /\ L2 L zf6 l (L zbi (mkV L k n s x)), .tup [], zsj L (L2 L zaa l (L zbi (mkV L k n s x)))⟩
   | none => none
 | _ => none)
theorem yo4 {b : List UInt8} {k n : Int} {s : List UInt8} {l : List CV} (h : zf6 b (zbi (.mk k n s l))) : zf6 b (zc4 (k % 256)) := by
 rw [zai] at h
 unfold zf6 at h |-
 have : (zfo k).length = 1 := rfl
 have : (zc4 (k % 256)).length = 1 := rfl
 rw [List.length_append] at h
 omega
theorem zt8 {b q : List UInt8} {k : Int} (h : zf6 b (zfo k ++ q)) : zf6 (zaa b (zc4 (k % 256))) q := by
 unfold zf6 zaa at *
 have : (zfo k).length = 1 := rfl
 have : (zc4 (k % 256)).length = 1 := rfl
 rw [List.length_append] at h |-
 omega
theorem yh1 {b q r : List UInt8} {k : Int} (h : zf6 b (zfo k ++ (q ++ r))) : zf6 (zaa b (zc4 (k % 256))) q := by
 unfold zf6 zaa at *
 have : (zfo k).length = 1 := rfl
 have : (zc4 (k % 256)).length = 1 := rfl
 rw [List.length_append, List.length_append] at h
 rw [List.length_append]
 omega
theorem zt4 {x y : List UInt8} (h : x = y) : (lenN x = lenN y /\ ∀ i j : Nat, i < lenN y -> j < 1 -> AV.int .u8 (zad x i) = AV.int .u8 (zad y i)) /\ lenN x = lenN y := by
 subst h; exact ⟨⟨rfl, fun _ _ _ _ => rfl⟩, rfl⟩
theorem ygx {b q t : List UInt8} {k : Int} (h : t = zfo k ++ q) : (lenN (zaa (zaa b (zc4 (k % 256))) q) = lenN (zaa b t) /\ ∀ i j : Nat, i < lenN (zaa b t) -> j < 1 -> AV.int .u8 (zad (zaa (zaa b (zc4 (k % 256))) q) i) = AV.int .u8 (zad (zaa b t) i)) /\ lenN (zaa (zaa b (zc4 (k % 256))) q) = lenN (zaa b t) :=
 zt4 (by rw [h]; unfold zaa; rw [List.append_assoc]; rfl)
theorem ygy {q t : List UInt8} {k : Int} (h : t = zfo k ++ q) : (lenN (zaa (zc4 (k % 256)) q) = lenN t /\ ∀ i j : Nat, i < lenN t -> j < 1 -> AV.int .u8 (zad (zaa (zc4 (k % 256)) q) i) = AV.int .u8 (zad t i)) /\ lenN (zaa (zc4 (k % 256)) q) = lenN t :=
 zt4 (by rw [h]; rfl)
theorem yje {N : Nat} (ih : zdd Tryz.prog (zp2 N std)) (b : List UInt8) (k n : Int) (s : List UInt8) (l : List CV) (hz : zor (N + 1) (.mk k n s l)) (hw : zy3 (.mk k n s l)) (hb : zf6 b (zbi (.mk k n s l))) :
   zbh Tryz.prog 124 [.ref 500000 0, .agg [.int .i64 k, .int .u64 n, .str s, cvL std l]] (bld std b) (.tup []) (zsj std (zaa b (zbi (.mk k n s l)))) := by
 refine zal (T := tt) (S := fun L => zbw [zk9 L] [yr0 L, yqz L, zp2 N L]) (lo := fun L => putA L b k l) (lb := noA) 5 (fn := Tryz.f124) (xs := fun L => [.ref 500000 0, .agg [.int .i64 k, .int .u64 n, .str s, cvL L l]]) (rts := fun _ => []) (O := fun L => bld L b) (O1 := fun L => zsj L (L2 L zaa b (L zbi (.mk k n s l))))
   rfl rfl (by kernel_rfl) (by kernel_rfl) (by kernel_rfl) za9 (zap ⟨zif, trivial⟩ ⟨zxv, zxo, ih, trivial⟩) (by kernel_rfl) ?_
 intro L P' Q' hL hP hQ
 have hB : ∀ b : List UInt8, L (L zbf (L lenN b)) (fun i => (AV.int .u8 (L2 L zad b i)).toI) = b := by subst hL; exact zgm
 (cbv; try simp only [syT, true_and, and_true])
 simp only [hB]
 refine ⟨⟨trivial, fun _ _ _ _ => trivial⟩, trivial, ⟨?_, ?_⟩, fun h1 => ⟨?_, ⟨trivial, fun _ _ _ _ => trivial⟩, trivial, ?_, ?_⟩, fun h1 => ⟨fun h2 => ⟨?_, ?_, ⟨trivial, fun _ _ _ _ => trivial⟩, trivial, ?_, ?_⟩, fun h2 => ⟨?_, ⟨trivial, fun _ _ _ _ => trivial⟩, trivial, ?_, ⟨0, ?_⟩, fun i hi => ?_⟩⟩⟩
 · (subst hL; subst hQ; simp only [L2, L3, std] at *; try simp only [syS, reduceCtorEq, Int.reduceToNat, Int.reduceAdd, Int.reduceSub] at *)
   exact ⟨Int.emod_nonneg _ (by omega), Int.emod_lt_of_pos _ (by omega)⟩
 · (subst hL; subst hQ; simp only [L2, L3, std] at *; try simp only [syS, reduceCtorEq, Int.reduceToNat, Int.reduceAdd, Int.reduceSub] at *)
   exact yo4 hb
 · (subst hL; subst hQ; simp only [L2, L3, std] at *; try simp only [syS, reduceCtorEq, Int.reduceToNat, Int.reduceAdd, Int.reduceSub] at *)
   rw [zxu] at hw
   exact hw.1.1
 · (subst hL; subst hQ; simp only [L2, L3, std] at *; try simp only [syS, reduceCtorEq, Int.reduceToNat, Int.reduceAdd, Int.reduceSub] at *)
   rw [zai, if_pos h1] at hb
   exact zt8 hb
 · (subst hL; subst hQ; simp only [L2, L3, std] at *; try simp only [syS, reduceCtorEq, Int.reduceToNat, Int.reduceAdd, Int.reduceSub] at *)
   exact ygx (by rw [zai, if_pos h1])
 · (subst hL; subst hQ; simp only [L2, L3, std] at *; try simp only [syS, reduceCtorEq, Int.reduceToNat, Int.reduceAdd, Int.reduceSub] at *)
   rw [zxu] at hw
   rw [zhc (by omega) (by omega)]
   exact ⟨by omega, by omega⟩
 · (subst hL; subst hQ; simp only [L2, L3, std] at *; try simp only [syS, reduceCtorEq, Int.reduceToNat, Int.reduceAdd, Int.reduceSub] at *)
   rw [zi9 hw.1]
   have h3 := hw.2
   rw [zai, if_neg h1, if_pos h2] at h3
   simp at h3 |-
   omega
 · (subst hL; subst hQ; simp only [L2, L3, std] at *; try simp only [syS, reduceCtorEq, Int.reduceToNat, Int.reduceAdd, Int.reduceSub] at *)
   rw [zi9 hw.1]
   rw [zai, if_neg h1, if_pos h2] at hb
   exact zt8 hb
 · (subst hL; subst hQ; simp only [L2, L3, std] at *; try simp only [syS, reduceCtorEq, Int.reduceToNat, Int.reduceAdd, Int.reduceSub] at *)
   rw [zi9 hw.1]
   exact ygx (by rw [zai, if_neg h1, if_pos h2])
 · (subst hL; subst hQ; simp only [L2, L3, std] at *; try simp only [syS, reduceCtorEq, Int.reduceToNat, Int.reduceAdd, Int.reduceSub] at *)
   rw [zia hz]
   exact zla hz
 · (subst hL; subst hQ; simp only [L2, L3, std] at *; try simp only [syS, reduceCtorEq, Int.reduceToNat, Int.reduceAdd, Int.reduceSub] at *)
   rw [zia hz]
   rw [zai, if_neg h1, if_neg h2] at hb
   exact yh1 hb
 · (cbv; try simp only [syT, true_and, and_true])
   (subst hL; subst hQ; simp only [L2, L3, std] at *; try simp only [syS, reduceCtorEq, Int.reduceToNat, Int.reduceAdd, Int.reduceSub] at *)
   rw [zia hz]
   have e : zaa (zaa b (zc4 (k % 256))) (zaw ((l.length : Nat) : Int)) = zng b k l 0 := by
     rw [zng, zgv, List.take_zero, zas, List.append_nil]; rfl
   rw [e]
   exact ⟨⟨rfl, fun _ _ _ _ => rfl⟩, rfl, Nat.zero_le _⟩
 · cbv at hi
   (cbv; try simp only [syT, true_and, and_true])
   simp only [hB]
   refine ⟨fun hlt => ⟨?_, ⟨trivial, fun _ _ _ _ => trivial⟩, trivial, fun _ _ _ _ => trivial, ⟨?_, ?_, ?_, ?_⟩, ⟨i + 1, ?_⟩⟩, fun hge => ?_⟩
   · (subst hL; subst hQ; simp only [L2, L3, std] at *; try simp only [syS, reduceCtorEq, Int.reduceToNat, Int.reduceAdd, Int.reduceSub] at *)
     omega
   · (subst hL; subst hQ; simp only [L2, L3, std] at *; try simp only [syS, reduceCtorEq, Int.reduceToNat, Int.reduceAdd, Int.reduceSub] at *)
     exact (zke _).2
   · (subst hL; subst hQ; simp only [L2, L3, std] at *; try simp only [syS, reduceCtorEq, Int.reduceToNat, Int.reduceAdd, Int.reduceSub] at *)
     rw [zdi]
     rw [zcc] at hz
     exact ztk hz.1 (by have : lenL l = l.length := rfl; omega)
   · (subst hL; subst hQ; simp only [L2, L3, std] at *; try simp only [syS, reduceCtorEq, Int.reduceToNat, Int.reduceAdd, Int.reduceSub] at *)
     rw [zbx]
     exact ygr hw (by omega) (by omega) (by have : lenL l = l.length := rfl; omega)
   · (subst hL; subst hQ; simp only [L2, L3, std] at *; try simp only [syS, reduceCtorEq, Int.reduceToNat, Int.reduceAdd, Int.reduceSub] at *)
     rw [zbx]
     have h4 := zdt (l := l) (i := i) (by have : lenL l = l.length := rfl; omega)
     have h5 := zic l (i + 1)
     rw [h4, List.length_append] at h5
     rw [zai, if_neg h1, if_neg h2] at hb
     unfold zf6 at hb |-
     simp only [List.length_append, zng] at hb |-
     omega
   · (cbv; try simp only [syT, true_and, and_true])
     (subst hL; subst hQ; simp only [L2, L3, std] at *; try simp only [syS, reduceCtorEq, Int.reduceToNat, Int.reduceAdd, Int.reduceSub] at *)
     have : lenL l = l.length := rfl
     have := zmi l
     rw [zcc] at hz
     have h4 := hz.1.1
     have h5 := hz.1.2
     rw [zbx]
     have e : zaa (zng b k l i) (zbi (zdh l i)) = zng b k l (i + 1) := by
       rw [zng, zng, zdt (by omega)]; unfold zaa; simp only [List.append_assoc]
     rw [e]
     exact ⟨⟨rfl, fun _ _ _ _ => rfl⟩, rfl, by omega, by omega, by omega⟩
   · (subst hL; subst hQ; simp only [L2, L3, std] at *; try simp only [syS, reduceCtorEq, Int.reduceToNat, Int.reduceAdd, Int.reduceSub] at *)
     have : lenL l = l.length := rfl
     have hil : i = l.length := by omega
     exact zt4 (by rw [zai, if_neg h1, if_neg h2, zng, hil, zgv, List.take_length]; unfold zaa; simp only [List.append_assoc])
theorem yjf {N : Nat} (ih : zdd Tryz.prog (zp2 N std)) (k n : Int) (s : List UInt8) (l : List CV) (hz : zor (N + 1) (.mk k n s l)) (hw : zy3 (.mk k n s l)) :
   zbh Tryz.prog 124 [.ref 500000 0, .agg [.int .i64 k, .int .u64 n, .str s, cvL std l]] yn9 (.tup []) (zsj std (zbi (.mk k n s l))) := by
 refine zal (T := tt) (S := fun L => zbw [zk9 L] [yr0 L, yqz L, zp2 N L]) (lo := fun L => putA L [] k l) (lb := noA) 5 (fn := Tryz.f124) (xs := fun L => [.ref 500000 0, .agg [.int .i64 k, .int .u64 n, .str s, cvL L l]]) (rts := fun _ => []) (O := fun L => yn9) (O1 := fun L => zsj L (L zbi (.mk k n s l)))
   rfl rfl (by kernel_rfl) (by kernel_rfl) (by kernel_rfl) za9 (zap ⟨zif, trivial⟩ ⟨zxv, zxo, ih, trivial⟩) (by kernel_rfl) ?_
 intro L P' Q' hL hP hQ
 have hb : zf6 [] (zbi (.mk k n s l)) := by have := hw.2; unfold zf6; simp; omega
 have hB : ∀ b : List UInt8, L (L zbf (L lenN b)) (fun i => (AV.int .u8 (L2 L zad b i)).toI) = b := by subst hL; exact zgm
 (cbv; try simp only [syT, true_and, and_true])
 simp only [hB]
 refine ⟨?_, fun h1 => ⟨?_, ⟨trivial, fun _ _ _ _ => trivial⟩, trivial, ?_, ?_⟩, fun h1 => ⟨fun h2 => ⟨?_, ?_, ⟨trivial, fun _ _ _ _ => trivial⟩, trivial, ?_, ?_⟩, fun h2 => ⟨?_, ⟨trivial, fun _ _ _ _ => trivial⟩, trivial, ?_, ⟨0, ?_⟩, fun i hi => ?_⟩⟩⟩
 · (subst hL; subst hQ; simp only [L2, L3, std] at *; try simp only [syS, reduceCtorEq, Int.reduceToNat, Int.reduceAdd, Int.reduceSub] at *)
   exact ⟨Int.emod_nonneg _ (by omega), Int.emod_lt_of_pos _ (by omega)⟩
 · (subst hL; subst hQ; simp only [L2, L3, std] at *; try simp only [syS, reduceCtorEq, Int.reduceToNat, Int.reduceAdd, Int.reduceSub] at *)
   rw [zxu] at hw
   exact hw.1.1
 · (subst hL; subst hQ; simp only [L2, L3, std] at *; try simp only [syS, reduceCtorEq, Int.reduceToNat, Int.reduceAdd, Int.reduceSub] at *)
   rw [zai, if_pos h1] at hb
   exact zt8 hb
 · (subst hL; subst hQ; simp only [L2, L3, std] at *; try simp only [syS, reduceCtorEq, Int.reduceToNat, Int.reduceAdd, Int.reduceSub] at *)
   exact ygy (by rw [zai, if_pos h1])
 · (subst hL; subst hQ; simp only [L2, L3, std] at *; try simp only [syS, reduceCtorEq, Int.reduceToNat, Int.reduceAdd, Int.reduceSub] at *)
   rw [zxu] at hw
   rw [zhc (by omega) (by omega)]
   exact ⟨by omega, by omega⟩
 · (subst hL; subst hQ; simp only [L2, L3, std] at *; try simp only [syS, reduceCtorEq, Int.reduceToNat, Int.reduceAdd, Int.reduceSub] at *)
   rw [zi9 hw.1]
   have h3 := hw.2
   rw [zai, if_neg h1, if_pos h2] at h3
   simp at h3 |-
   omega
 · (subst hL; subst hQ; simp only [L2, L3, std] at *; try simp only [syS, reduceCtorEq, Int.reduceToNat, Int.reduceAdd, Int.reduceSub] at *)
   rw [zi9 hw.1]
   rw [zai, if_neg h1, if_pos h2] at hb
   exact zt8 hb
 · (subst hL; subst hQ; simp only [L2, L3, std] at *; try simp only [syS, reduceCtorEq, Int.reduceToNat, Int.reduceAdd, Int.reduceSub] at *)
   rw [zi9 hw.1]
   exact ygy (by rw [zai, if_neg h1, if_pos h2])
 · (subst hL; subst hQ; simp only [L2, L3, std] at *; try simp only [syS, reduceCtorEq, Int.reduceToNat, Int.reduceAdd, Int.reduceSub] at *)
   rw [zia hz]
   exact zla hz
 · (subst hL; subst hQ; simp only [L2, L3, std] at *; try simp only [syS, reduceCtorEq, Int.reduceToNat, Int.reduceAdd, Int.reduceSub] at *)
   rw [zia hz]
   rw [zai, if_neg h1, if_neg h2] at hb
   exact yh1 hb
 · (cbv; try simp only [syT, true_and, and_true])
   (subst hL; subst hQ; simp only [L2, L3, std] at *; try simp only [syS, reduceCtorEq, Int.reduceToNat, Int.reduceAdd, Int.reduceSub] at *)
   rw [zia hz]
   have e : zaa (zc4 (k % 256)) (zaw ((l.length : Nat) : Int)) = zng [] k l 0 := by
     rw [zng, zgv, List.take_zero, zas, List.append_nil]; rfl
   rw [e]
   exact ⟨⟨rfl, fun _ _ _ _ => rfl⟩, rfl, Nat.zero_le _⟩
 · cbv at hi
   (cbv; try simp only [syT, true_and, and_true])
   simp only [hB]
   refine ⟨fun hlt => ⟨?_, ⟨trivial, fun _ _ _ _ => trivial⟩, trivial, fun _ _ _ _ => trivial, ⟨?_, ?_, ?_, ?_⟩, ⟨i + 1, ?_⟩⟩, fun hge => ?_⟩
   · (subst hL; subst hQ; simp only [L2, L3, std] at *; try simp only [syS, reduceCtorEq, Int.reduceToNat, Int.reduceAdd, Int.reduceSub] at *)
     omega
   · (subst hL; subst hQ; simp only [L2, L3, std] at *; try simp only [syS, reduceCtorEq, Int.reduceToNat, Int.reduceAdd, Int.reduceSub] at *)
     exact (zke _).2
   · (subst hL; subst hQ; simp only [L2, L3, std] at *; try simp only [syS, reduceCtorEq, Int.reduceToNat, Int.reduceAdd, Int.reduceSub] at *)
     rw [zdi]
     rw [zcc] at hz
     exact ztk hz.1 (by have : lenL l = l.length := rfl; omega)
   · (subst hL; subst hQ; simp only [L2, L3, std] at *; try simp only [syS, reduceCtorEq, Int.reduceToNat, Int.reduceAdd, Int.reduceSub] at *)
     rw [zbx]
     exact ygr hw (by omega) (by omega) (by have : lenL l = l.length := rfl; omega)
   · (subst hL; subst hQ; simp only [L2, L3, std] at *; try simp only [syS, reduceCtorEq, Int.reduceToNat, Int.reduceAdd, Int.reduceSub] at *)
     rw [zbx]
     have h4 := zdt (l := l) (i := i) (by have : lenL l = l.length := rfl; omega)
     have h5 := zic l (i + 1)
     rw [h4, List.length_append] at h5
     rw [zai, if_neg h1, if_neg h2] at hb
     unfold zf6 at hb |-
     simp only [List.length_append, zng] at hb |-
     omega
   · (cbv; try simp only [syT, true_and, and_true])
     (subst hL; subst hQ; simp only [L2, L3, std] at *; try simp only [syS, reduceCtorEq, Int.reduceToNat, Int.reduceAdd, Int.reduceSub] at *)
     have : lenL l = l.length := rfl
     have := zmi l
     rw [zcc] at hz
     have h4 := hz.1.1
     have h5 := hz.1.2
     rw [zbx]
     have e : zaa (zng [] k l i) (zbi (zdh l i)) = zng [] k l (i + 1) := by
       rw [zng, zng, zdt (by omega)]; unfold zaa; simp only [List.append_assoc]
     rw [e]
     exact ⟨⟨rfl, fun _ _ _ _ => rfl⟩, rfl, by omega, by omega, by omega⟩
   · (subst hL; subst hQ; simp only [L2, L3, std] at *; try simp only [syS, reduceCtorEq, Int.reduceToNat, Int.reduceAdd, Int.reduceSub] at *)
     have : lenL l = l.length := rfl
     have hil : i = l.length := by omega
     exact zt4 (by rw [zai, if_neg h1, if_neg h2, zng, hil, zgv, List.take_length, List.nil_append, List.append_assoc])
theorem zkp {P : Program} {f : FuncId} {xs ys : List AV} {O O1 : List (Nat × Ob)} {r : AV} (e : ∀ h D μ vs, RL h D μ xs vs -> RL h D μ ys vs) (hm : zbh P f ys O r O1) : zbh P f xs O r O1 :=
 fun D w μ vs hD hx => hm D w μ vs hD (e _ _ _ _ hx)
theorem ybm : ∀ N, zdd Tryz.prog (zp2 N std) := by
 intro N
 induction N with
 | zero =>
   intro raw ob T hT hp
   unfold zp2 at hT
   simp only at hT
   split at hT
   · rename_i k n s x
     split at hT <;> cases hT
     · have h1 : sizeC (mkV std k n s x) <= 0 := hp.2.1.1
       have := zep (mkV std k n s x)
       omega
     · have h1 : sizeC (mkV std k n s x) <= 0 := hp.2.1.1
       have := zep (mkV std k n s x)
       omega
   · cases hT
 | succ N ih =>
   intro raw ob T hT hp
   unfold zp2 at hT
   simp only at hT
   split at hT
   rotate_left
   · cases hT
   rename_i k n s x
   split at hT <;> cases hT
   · refine zkp (fun h D μ vs hr => yo6 (fun v => yia hp.1) hr) ?_
     exact yjf ih k n s (rdL x) hp.2.1 hp.2.2
   · refine zkp (fun h D μ vs hr => yo6 (fun v => yia hp.1) hr) ?_
     exact yje ih _ k n s (rdL x) hp.2.1 hp.2.2.1 hp.2.2.2
theorem zsp {P : Program} {f : FuncId} {sz n : Nat} {get : Nat -> Nat -> AV} {r : AV} (h0 : n = 0 -> za7 P f [.nils] r) (h1 : n = 0 -> za7 P f [.emp] r) (h2 : 0 < n -> za7 P f [.lst sz n get] r) : za7 P f [.lst sz n get] r := by
 by_cases e : n = 0
 · subst e
   intro D w vs hD hx
   obtain ⟨v, hv⟩ : ∃ v, vs.toList = [v] := List.length_eq_one_iff.1 (by simpa using hx.1.symm)
   have : vs = #[v] := by rw [<- Array.toArray_toList (xs := vs), hv]
   subst this
   have hr := hx.2 0 _ _ rfl rfl
   have one : ∀ y, R w.heap D zar y v -> RL w.heap D zar [y] #[v] := fun y r => ⟨rfl, fun i x u hx hu => by
     match i with
     | 0 => cases hx; cases hu; exact r
     | i + 1 => simp at hx⟩
   cases hr with
   | lst0 _ _ a cap hn =>
     cases a with
     | none =>
       obtain rfl := hn rfl
       exact h0 rfl D w _ hD (one _ .nils)
     | some a => exact h1 rfl D w _ hD (one _ (.emp a cap))
   | lst _ _ _ b o cap vs' hD' hc hv' h1' hr' => exact h1 rfl D w _ hD (one _ (.emp _ cap))
 · exact h2 (by omega)
def zfp (n : Int) : CV := .mk 1 n [] []
def zib (s : List UInt8) : CV := .mk 2 0 s []
def zc5 (l : List CV) : CV := .mk 3 0 [] l
def zw1 (L : za8) : zbv := (77, fun xs => match xs with | [.int .u64 n] => some (True, cvA L (L zfp n)) | _ => none)
def zv1 (L : za8) : zbv := (128, fun xs => match xs with | [.str s] => some (True, cvA L (L zib s)) | _ => none)
theorem zjl : zb6 Tryz.prog (zw1 std) := by
 intro xs p r h hp
 unfold zw1 at h
 simp only at h
 split at h
 rotate_left
 · cases h
 rename_i n
 cases h
 refine zae (T := tt) (S := noS) (lo := noA) (lb := noA) 5 (fn := Tryz.f77) rfl rfl (by kernel_rfl) (by kernel_rfl) rfl za9 (zbb _) (by kernel_rfl) ?_
 (intro L P1 Q1 hL hP hQ; cbv; subst hL; simp only [L2, L3, std, syT]; subst hQ)
 show zhx (.agg [.int .i64 1, .int .u64 n, .str [], .lst 4 0 (zjw (zfp n))]) _
 simp [zg4, zd6, zdq, zgj, zci]
theorem zji : zb6 Tryz.prog (zv1 std) := by
 intro xs p r h hp
 unfold zv1 at h
 simp only at h
 split at h
 rotate_left
 · cases h
 rename_i n
 cases h
 refine zae (T := tt) (S := noS) (lo := noA) (lb := noA) 5 (fn := Tryz.f128) rfl rfl (by kernel_rfl) (by kernel_rfl) rfl za9 (zbb _) (by kernel_rfl) ?_
 (intro L P1 Q1 hL hP hQ; cbv; subst hL; simp only [L2, L3, std, syT]; subst hQ)
 show zhx (.agg [.int .i64 2, .int .u64 0, .str n, .lst 4 0 (zjw (zib n))]) _
 simp [zg4, zd6, zdq, zgj, zci]
def ya3 (l : List CV) : Prop := l.length <= 1000000
def zsb (L : za8) : zbv := (127, fun xs => match xs with
 | [x] => some (L okL x /\ L ya3 (L rdL x), .lst 4 (L lenL (L rdL x)) (L zi0 (L rdL x)))
 | _ => none)
theorem zww : zb6 Tryz.prog (zsb std) := by
 intro xs p r h hp
 unfold zsb at h
 simp only at h
 split at h
 rotate_left
 · cases h
 rename_i x
 cases h
 obtain ⟨ho, hz⟩ := hp
 refine yrv ho ?_
 have hz : ya3 (rdL x) := hz
 show za7 _ _ [cvL std (rdL x)] (.lst 4 (lenL (rdL x)) (zi0 (rdL x)))
 generalize rdL x = l at hz |-
 refine zsp (fun h => ?_) (fun h => ?_) (fun h => ?_)
 · refine zae (T := tt) (S := noS) (lo := noA) (lb := noA) 5 (fn := Tryz.f127) rfl rfl (by kernel_rfl) (by kernel_rfl) rfl za9 (zbb _) (by kernel_rfl) ?_
   intro L P' Q' hL hP hQ
   (cbv; try simp only [syT, true_and, and_true])
   (subst hL; subst hQ; simp only [L2, L3, std] at *; try simp only [syS, reduceCtorEq, Int.reduceToNat, Int.reduceAdd, Int.reduceSub] at *)
   exact h.symm
 · refine zae (T := tt) (S := noS) (lo := noA) (lb := noA) 5 (fn := Tryz.f127) rfl rfl (by kernel_rfl) (by kernel_rfl) rfl za9 (zbb _) (by kernel_rfl) ?_
   intro L P' Q' hL hP hQ
   (cbv; try simp only [syT, true_and, and_true])
   (subst hL; subst hQ; simp only [L2, L3, std] at *; try simp only [syS, reduceCtorEq, Int.reduceToNat, Int.reduceAdd, Int.reduceSub] at *)
   exact ⟨by omega, h.symm, fun i j hi => by omega⟩
 · refine za4 (T := tt) (S := noS) (lo := fun _ => noA std) (lb := noA) 5 (fn := Tryz.f127) (xs := fun L => [cvL L l]) rfl rfl (by kernel_rfl) (by kernel_rfl) rfl za9 (zbb _) (by kernel_rfl) ?_
   intro L P' Q' hL hP hQ
   (cbv; try simp only [syT, true_and, and_true])
   (subst hL; subst hQ; simp only [L2, L3, std] at *; try simp only [syS, reduceCtorEq, Int.reduceToNat, Int.reduceAdd, Int.reduceSub] at *)
   have h1 : lenL l <= 1000000 := hz
   exact ⟨zlf h, by omega, fun i j hi hj => by rw [zsa _ _ hj, zbs _ _ _ hi]⟩
def zfj (L : za8) : zbv := (76, fun xs => match xs with
 | [x] => some (L okL x /\ L ya3 (L rdL x), cvA L (L zc5 (L rdL x)))
 | _ => none)
theorem zc7 : zb6 Tryz.prog (zfj std) := by
 intro xs p r h hp
 unfold zfj at h
 simp only at h
 split at h
 rotate_left
 · cases h
 rename_i x
 cases h
 obtain ⟨ho, hz⟩ := hp
 refine yrv ho ?_
 have hz : ya3 (rdL x) := hz
 show za7 _ _ [cvL std (rdL x)] (cvA std (zc5 (rdL x)))
 generalize rdL x = l at hz |-
 refine za4 (T := tt) (S := fun L => zat [zsb L]) (lo := fun _ => noA std) (lb := noA) 5 (fn := Tryz.f76) (xs := fun L => [cvL L l]) rfl rfl (by kernel_rfl) (by kernel_rfl) rfl za9 (za3 ⟨zww, trivial⟩) (by kernel_rfl) ?_
 intro L P' Q' hL hP hQ
 (cbv; try simp only [syT, true_and, and_true])
 (subst hL; subst hQ; simp only [L2, L3, std] at *; try simp only [syS, reduceCtorEq, Int.reduceToNat, Int.reduceAdd, Int.reduceSub] at *)
 rw [rdl]
 refine ⟨⟨okl l, hz⟩, ?_⟩
 show zhx (.agg [.int .i64 3, .int .u64 0, .str [], .lst 4 (lenL l) (zi0 l)]) _
 simp [zg4, zd6, zdq, zgk, zci]
def zln (v : CV) : Int := if ze6 v = true then (if zcx v > 6 then 8 else if (zbi v).length > 8192 then 5 else 0) else 10
def zvs (v : CV) : List UInt8 := if zln v = 0 then zbi v else []
def zul (N : Nat) (L : za8) : zbv := (75, fun xs => match xs with
 | [.agg [.int .i64 k, .int .u64 n, .str s, x]] => some (L okL x /\ L2 L zor N (mkV L k n s x) /\ L zy3 (mkV L k n s x), .tup [.str (L zvs (mkV L k n s x)), .int .i64 (L zln (mkV L k n s x))])
 | _ => none)
theorem zmr (N : Nat) : zb6 Tryz.prog (zul N std) := by
 intro xs p r h hp
 unfold zul at h
 simp only at h
 split at h
 rotate_left
 · cases h
 rename_i k n s x
 cases h
 obtain ⟨ho, hz, hw⟩ := hp
 refine yru ho ?_
 rw [show mkV std k n s x = .mk k n s (rdL x) from rfl] at hz hw |-
 generalize rdL x = l at hz hw |-
 have hz : zor N (.mk k n s l) := hz
 have hw : zy3 (.mk k n s l) := hw
 refine za4 (T := tt) (S := fun L => zbw [zmu N L, zq0 N L] [zp2 N L, yu1 L, yu0 L]) (lo := fun _ => noA std) (lb := noA) 5 (fn := Tryz.f75) (xs := fun L => [.agg [.int .i64 k, .int .u64 n, .str s, cvL L l]]) rfl rfl (by kernel_rfl) (by kernel_rfl) rfl za9
   (zap ⟨yca N, ybg N, trivial⟩ ⟨ybm N, ymh, ymf, trivial⟩) (by kernel_rfl) ?_
 intro L P' Q' hL hP hQ
 have hB : ∀ b : List UInt8, L (L zbf (L lenN b)) (fun i => (AV.int .u8 (L2 L zad b i)).toI) = b := by subst hL; exact zgm
 (cbv; try simp only [syT, true_and, and_true])
 simp only [hB]
 (subst hL; subst hQ; simp only [L2, L3, std] at *; try simp only [syS, reduceCtorEq, Int.reduceToNat, Int.reduceAdd, Int.reduceSub] at *)
 simp only [rdl, mkl]
 refine ⟨⟨okl l, hz⟩, fun h1 => ?_, fun h1 => ⟨⟨okl l, hz⟩, fun h2 => ?_, fun h2 => ⟨⟨okl l, hz, hw⟩, fun h3 => ?_, fun h3 => ⟨⟨?_, hw.2⟩, ?_⟩⟩⟩⟩
 · simp [zvs, zln, h1]
 · simp [zvs, zln, h1, h2]
 · have h4 : ¬ 6 < zcx (.mk k n s l) := by omega
   have h5 : 8192 < (zbi (.mk k n s l)).length := by omega
   simp [zvs, zln, h1, h4, h5]
 · rw [zai]; simp [zfo]
 · have h4 : ¬ 6 < zcx (.mk k n s l) := by omega
   have h5 : ¬ 8192 < (zbi (.mk k n s l)).length := by omega
   simp [zvs, zln, h1, h4, h5]
theorem one1 (v : CV) : rdL (.lst 4 1 fun i j => zbn .dead [.int .i64 v.kd, .int .u64 v.nn, .str v.tx, .lst 4 (zlo v) (zjw v)] (i * 4 + j)) = [v] := by
 show [CV.mk v.kd v.nn v.tx (rdL (.lst 4 (zlo v) (zjw v)))] = [v]
 rw [zdi]
theorem yjs (v : CV) : okL (.lst 4 1 fun i j => zbn .dead [.int .i64 v.kd, .int .u64 v.nn, .str v.tx, .lst 4 (zlo v) (zjw v)] (i * 4 + j)) := by
 refine ⟨rfl, fun i hi => ?_⟩
 have : i = 0 := by omega
 subst this
 exact ⟨⟨_, rfl⟩, ⟨_, rfl⟩, ⟨_, rfl⟩, (zke v).2⟩
theorem zya : zaw 1 = [1] := by rw [zaw, show (1 : Int).toNat = 1 from rfl, zb2 (by decide)]; rfl
theorem ynv : zaw 5 = [5] := by rw [zaw, show (5 : Int).toNat = 5 from rfl, zb2 (by decide)]; rfl
theorem zrz : zbi (zc5 [zfp 5]) = [3, 1, 1, 5] := by
 rw [zc5, zfp, zai, if_neg (by decide), if_neg (by decide), zas, zai, if_pos rfl, zas, ynv]
 show _ ++ (zaw 1 ++ _) = _
 rw [zya]; rfl
theorem yld : ze6 (zc5 [zfp 5]) = true := by rw [zc5, zfp, ze6, zc2, ze6, zc2]; rfl
theorem ylc : zcx (zc5 [zfp 5]) = 1 := by rw [zc5, zfp, zcx, zau, zcx, zau]; rfl
theorem yla : sizeC (zc5 [zfp 5]) = 2 := by rw [zc5, zfp, zcn, zbk, zcf, zcn, zcf]
theorem yba : zln (zc5 [zfp 5]) = 0 := by rw [zln, yld, ylc, zrz]; rfl
theorem ylb : zvs (zc5 [zfp 5]) = [3, 1, 1, 5] := by rw [zvs, yba, zrz]; rfl
theorem ytk : zy3 (zc5 [zfp 5]) := by
 refine ⟨?_, by rw [zrz]; decide⟩
 simp only [zc5, zfp, wfV, zsr, zco]
 decide
theorem zx3 : za7 Tryz.prog 83 [] (.bool true) := by
 refine zae (T := tt) (S := fun L => zat [zw1 L, zfj L, zul 100 L, tru 134]) (lo := noA) (lb := noA) 5 (fn := Tryz.f83) rfl rfl (by kernel_rfl) (by kernel_rfl) rfl za9 (za3 ⟨zjl, zc7, zmr 100, zca zn1, trivial⟩) (by kernel_rfl) ?_
 intro L P' Q' hL hP hQ
 (cbv; try simp only [syT, true_and, and_true])
 (subst hL; subst hQ; simp only [L2, L3, std] at *; try simp only [syS, reduceCtorEq, Int.reduceToNat, Int.reduceAdd, Int.reduceSub] at *)
 simp only [one1, zdi, zbx, yba, ylb]
 exact ⟨⟨yjs _, by show (1 : Nat) <= 1000000; omega⟩, ⟨(zke _).2, ⟨by rw [yla]; omega, by omega⟩, ytk⟩, fun _ => trivial, trivial⟩
theorem zxd : za7 Tryz.prog 32 [] (.bool true) := by
 refine zae (T := tt) (S := fun L => zat [tru 83]) (lo := noA) (lb := noA) 5 (fn := Tryz.f32) rfl rfl (by kernel_rfl) (by kernel_rfl) rfl za9 (za3 ⟨zca zx3, trivial⟩) (by kernel_rfl) ?_
 (intro L P1 Q1 hL hP hQ; cbv; subst hL; simp only [L2, L3, std, syT]; subst hQ)
 (simp only [syS, reduceCtorEq, Int.reduceToNat, Int.reduceAdd, Int.reduceSub])
theorem zoc (g : Nat -> CV) {i q j : Nat} (hq : q < i + 1) (hj : j < 4) :
   zgx std (zbm q i) (cv1 std (g q) j) (zbn .dead [.int .i64 (g i).kd, .int .u64 (g i).nn, .str (g i).tx, .lst 4 (zlo (g i)) (zjw (g i))] ((q - i) * 4 + j)) = cv1 std (g q) j := by
 by_cases h : q < i
 · rw [zlf h, show q - i = 0 by omega, Nat.zero_mul, Nat.zero_add]
   match j, hj with
   | 0, _ => rfl
   | 1, _ => rfl
   | 2, _ => rfl
   | 3, _ => rfl
 · have : q = i := by omega
   subst this
   rw [zoh (by omega), show q - q = 0 by omega, Nat.zero_mul, Nat.zero_add]
   match j, hj with
   | 0, _ => rfl
   | 1, _ => rfl
   | 2, _ => rfl
   | 3, _ => rfl
structure Nd where
 k : Int
 n : Int
 s : List UInt8
 b : List UInt8
def yrc (l : List Nd) (i : Nat) : Nd := l.getD i ⟨0, 0, [], []⟩
def ymj {α : Type} (all : List α) : List UInt8 -> List α
 | [] => []
 | x :: b => if h : x.toNat < all.length then all[all.length - 1 - x.toNat] :: ymj all b else ymj all b
def sumI : List Int -> Int
 | [] => 0
 | x :: l => x + sumI l
def sizN (all : List Int) (d : Nd) : Int := 1 + ((d.s.length / 8 : Nat) : Int) + sumI (ymj all d.b)
def yiu (l : List Nd) : Nat -> List Int
 | 0 => []
 | i + 1 => yiu l i ++ [sizN (yiu l i) (yrc l i)]
def sizD (l : List Nd) (i : Nat) : Int := sizN (yiu l i) (yrc l i)
def yfo (l : List Nd) (i : Nat) : Prop := sizD l i <= 2000 /\ (yrc l i).s.length <= 9000 /\ (yrc l i).b.length <= 20 /\ l.length <= 40
def yhj (l : List Nd) (i : Nat) : Prop := ∀ j, j < i -> yfo l j
instance (l : List Nd) (i : Nat) : Decidable (yfo l i) := by unfold yfo; exact inferInstance
instance (l : List Nd) (i : Nat) : Decidable (yhj l i) := by unfold yhj; exact Nat.decidableBallLT i fun j _ => yfo l j
def cb (s : List UInt8) (i : Nat) : Nat := (s.getD i 0).toNat
def lng (s : List UInt8) : Nat -> Nat -> Nat -> Nat × Nat × Nat
 | 0, _, _ => (0, 0, 4)
 | f + 1, i, n =>
   if s.length <= i then (0, 0, 3)
   else if i = 9 /\ 1 < cb s i then (0, 0, 4)
   else if 128 <= cb s i then lng s f (i + 1) (n + cb s i % 128 * 2 ^ (7 * i))
   else if 0 < cb s i \/ i = 0 then (n + cb s i % 128 * 2 ^ (7 * i), i + 1, 0)
   else (0, 0, 4)
def yk9 (s : List UInt8) : Int := (lng s 10 0 0).1
def yt1 (s : List UInt8) : Int := (lng s 10 0 0).2.1
def yrf (s : List UInt8) : Int := (lng s 10 0 0).2.2
structure Lv where
 left : Int
 l : List CV
structure NR where
 v : CV
 r : List UInt8
 e : Int
structure NX where
 st : List Lv
 s : List UInt8
 f : Nat
 v : CV
def zls (e : Int) : NR := ⟨.mk 0 0 [] [], [], e⟩
def zf9 (val : List Lv -> List UInt8 -> NR) : List Lv -> CV -> List UInt8 -> NR
 | [], v, s => ⟨v, s, 0⟩
 | a :: st, v, s => if a.left - 1 = 0 then zf9 val st (.mk 3 0 [] (a.l ++ [v])) s else val (⟨a.left - 1, a.l ++ [v]⟩ :: st) s
def zio (val : List Lv -> List UInt8 -> NR) : List Lv -> List UInt8 -> NR
 | [], s => zls 0
 | a :: st, s => if a.left = 0 then zf9 val st (.mk 3 0 [] a.l) s else val (a :: st) s
def zgz (s : List UInt8) : List UInt8 := (s.drop 1).drop (yt1 (s.drop 1)).toNat
def zed : Nat -> List Lv -> List UInt8 -> NR
 | 0, _, _ => zls 0
 | f + 1, st, s =>
   if s = [] then zls 3
   else if cb s 0 < 1 \/ 3 < cb s 0 then zls 10
   else if yrf (s.drop 1) ≠ 0 then zls (yrf (s.drop 1))
   else if cb s 0 = 1 then zf9 (zed f) st (.mk 1 (yk9 (s.drop 1)) [] []) (zgz s)
   else if cb s 0 = 2 then
     if ((zgz s).length : Int) < yk9 (s.drop 1) then zls 3
     else zf9 (zed f) st (.mk 2 0 ((zgz s).take (yk9 (s.drop 1)).toNat) []) ((zgz s).drop (yk9 (s.drop 1)).toNat)
   else if st.length = 6 then zls 8
   else zio (zed f) (⟨yk9 (s.drop 1), []⟩ :: st) (zgz s)
def yoi (s : List UInt8) : NR := if 8192 < s.length then zls 5 else zed (s.length + 1) [] s
def yns : List Lv -> Nat
 | [] => 0
 | a :: r => a.l.length + 1 + yns r
def lvOk (st : List Lv) : Prop := ∀ a ∈ st, 1 <= a.left /\ a.left < 18446744073709551616
def ysz (s0 : List UInt8) (x : NX) : Prop := x.st.length <= 6 /\ lvOk x.st /\ x.s.length < x.f /\ x.s.length + yns x.st <= 8192 /\ zed x.f x.st x.s = yoi s0
section
variable {s0 s : List UInt8} {st : List Lv} {f : Nat} {v : CV}
variable (h : ysz s0 ⟨st, s, f, v⟩)
include h
end
section
variable {s0 s : List UInt8} {st : List Lv} {f : Nat} {v : CV} {a : Lv}
end
end Sy
end Go.Proofs.YthppjaoicibeiaaGreatDoor
namespace Go.Proofs.YthppjaoicibeiaaGreatDoor
namespace Sy
open Go Go.RowKit
set_option maxRecDepth 100000
set_option linter.unusedSimpArgs false
set_option linter.unusedVariables false
theorem yqh (p : List UInt8) (c : UInt8) (r : List UInt8) : cb (p ++ c :: r) p.length = c.toNat := by
 unfold cb
 rw [List.getD_eq_getElem?_getD, List.getElem?_append_right (Nat.le_refl _), Nat.sub_self]
 rfl
theorem zpe (r : List UInt8) : ∀ (f m n0 : Nat) (p : List UInt8), f + p.length = 10 -> m * 2 ^ (7 * p.length) < 2 ^ 64 -> (0 < m \/ p.length = 0) ->
   lng (p ++ (zde m ++ r)) f p.length n0 = (n0 + m * 2 ^ (7 * p.length), p.length + (zde m).length, 0)
 | 0, m, n0, p, hf, hm, h0 => by
   have : p.length = 10 := by omega
   rw [this] at hm h0
   have : 2 ^ (7 * 10) <= m * 2 ^ (7 * 10) := Nat.le_mul_of_pos_left _ (by omega)
   omega
 | f + 1, m, n0, p, hf, hm, h0 => by
   by_cases hb : 128 <= m
   · rw [zga hb]
     have hc : cb (p ++ (UInt8.ofNat (m % 128 + 128) :: zde (m / 128) ++ r)) p.length = m % 128 + 128 := by
       rw [List.cons_append, yqh]
       simp; omega
     have h9 : p.length ≠ 9 := by
       intro h
       rw [h] at hm
       have : 128 * 2 ^ (7 * 9) <= m * 2 ^ (7 * 9) := Nat.mul_le_mul_right _ hb
       omega
     rw [lng, if_neg (by simp), hc, if_neg (by omega), if_pos (by omega)]
     have e : p ++ (UInt8.ofNat (m % 128 + 128) :: zde (m / 128) ++ r) = (p ++ [UInt8.ofNat (m % 128 + 128)]) ++ (zde (m / 128) ++ r) := by simp
     have hl : (p ++ [UInt8.ofNat (m % 128 + 128)]).length = p.length + 1 := by simp
     have hp : 2 ^ (7 * (p.length + 1)) = 128 * 2 ^ (7 * p.length) := by rw [show 7 * (p.length + 1) = 7 + 7 * p.length by omega, Nat.pow_add]
     have hd : m / 128 * (128 * 2 ^ (7 * p.length)) + m % 128 * 2 ^ (7 * p.length) = m * 2 ^ (7 * p.length) := by
       rw [<- Nat.mul_assoc, <- Nat.add_mul]
       congr 1; omega
     have ih := zpe r f (m / 128) (n0 + (m % 128 + 128) % 128 * 2 ^ (7 * p.length)) (p ++ [UInt8.ofNat (m % 128 + 128)]) (by rw [hl]; omega) (by rw [hl, hp]; omega) (.inl (by omega))
     rw [hl] at ih
     rw [e, ih, hp, List.length_cons, show (m % 128 + 128) % 128 = m % 128 by omega]
     refine Prod.ext ?_ (Prod.ext ?_ rfl)
     · show n0 + m % 128 * 2 ^ (7 * p.length) + m / 128 * (128 * 2 ^ (7 * p.length)) = n0 + m * 2 ^ (7 * p.length)
       omega
     · show p.length + 1 + _ = p.length + (_ + 1)
       omega
   · rw [zb2 (by omega)]
     have hc : cb (p ++ ([UInt8.ofNat m] ++ r)) p.length = m := by
       rw [List.singleton_append, yqh]
       simp; omega
     have h9 : ¬ (p.length = 9 /\ 1 < m) := by
       rintro ⟨h, h1⟩
       rw [h] at hm
       have : 2 * 2 ^ (7 * 9) <= m * 2 ^ (7 * 9) := Nat.mul_le_mul_right _ h1
       omega
     rw [lng, if_neg (by simp), hc, if_neg h9, if_neg (by omega), if_pos h0, Nat.mod_eq_of_lt (by omega)]
     rfl
theorem yoz {m : Int} (h : zco m) (r : List UInt8) : yk9 (zaw m ++ r) = m /\ yt1 (zaw m ++ r) = ((zaw m).length : Int) /\ yrf (zaw m ++ r) = 0 := by
 have h0 := h.1
 have h1 := h.2
 have := zpe r 10 m.toNat 0 [] rfl (by simp; omega) (.inr rfl)
 simp only [List.nil_append, List.length_nil, Nat.zero_add, Nat.mul_zero, Nat.pow_zero, Nat.mul_one] at this
 unfold yk9 yt1 yrf zaw
 rw [this]
 refine ⟨?_, rfl, rfl⟩
 show ((m.toNat : Nat) : Int) = m
 omega
theorem znn {m : Int} (h : zco m) (g : Nat) (st : List Lv) (c : UInt8) (r : List UInt8) (hc : 1 <= c.toNat /\ c.toNat <= 3) : zed (g + 1) st (c :: (zaw m ++ r)) =
   if c.toNat = 1 then zf9 (zed g) st (.mk 1 m [] []) r
   else if c.toNat = 2 then
     if (r.length : Int) < m then zls 3
     else zf9 (zed g) st (.mk 2 0 (r.take m.toNat) []) (r.drop m.toNat)
   else if st.length = 6 then zls 8
   else zio (zed g) (⟨m, []⟩ :: st) r := by
 obtain ⟨e1, e2, e3⟩ := yoz h r
 have hcb : cb (c :: (zaw m ++ r)) 0 = c.toNat := rfl
 have hr : zgz (c :: (zaw m ++ r)) = r := by
   unfold zgz
   rw [List.drop_succ_cons, List.drop_zero, e2]
   simp
 rw [zed, if_neg (by simp), hcb, if_neg (by omega), List.drop_succ_cons, List.drop_zero, e1, e3, hr, if_neg (by simp)]
theorem ylk (v : CV) : 0 <= zcx v /\ 0 <= zau v.ls := by
 have h0 : ∀ b : List CV, 0 <= zau b := by
   intro b
   induction b with
   | nil => rw [zau]; omega
   | cons v l ih => rw [zau]; omega
 refine ⟨?_, h0 _⟩
 cases v with
 | mk k n s l =>
   rw [zcx]
   have := h0 l
   split <;> omega
def ymp (v : CV) : Prop := ∀ (st : List Lv) (s : List UInt8) (f : Nat), wfV v -> ze6 v = true -> (st.length : Int) + zcx v <= 6 -> (zbi v).length <= 90000000 -> (zbi v).length + s.length < f ->
 ∃ f', s.length < f' /\ zed f st (zbi v ++ s) = zf9 (zed f') st v s
theorem yd7 (v : CV) : 0 < (zbi v).length := by
 cases v with
 | mk k n s l =>
   rw [zai, List.length_append]
   show 0 < 1 + _
   omega
theorem zop : ∀ l : List CV, l.length <= (zas l).length
 | [] => by simp
 | v :: l => by
   have := zop l
   have := yd7 v
   rw [zas, List.length_append, List.length_cons]
   omega
theorem zti (st : List Lv) (s : List UInt8) : ∀ (l : List CV) (acc : List CV) (f : Nat), (∀ w ∈ l, ymp w) -> zsr l -> zc2 l = true -> (st.length : Int) + 1 + zau l <= 6 -> (zas l).length <= 90000000 -> (zas l).length + s.length < f ->
   ∃ f', s.length < f' /\ zio (zed f) (⟨(l.length : Int), acc⟩ :: st) (zas l ++ s) = zf9 (zed f') st (.mk 3 0 [] (acc ++ l)) s
 | [], acc, f, hr, hw, hb, hd, ht, hf => by
   refine ⟨f, by rw [zas] at hf; simpa using hf, ?_⟩
   rw [zio, if_pos (show ((List.length ([] : List CV) : Nat) : Int) = 0 from rfl), zas, List.nil_append, List.append_nil]
 | v :: l, acc, f, hr, hw, hb, hd, ht, hf => by
   rw [zsr] at hw
   rw [zc2, Bool.and_eq_true] at hb
   rw [zau] at hd
   rw [zas, List.length_append] at ht hf
   obtain ⟨f1, h1, e1⟩ := hr v (by simp) (⟨((v :: l).length : Int), acc⟩ :: st) (zas l ++ s) f hw.1 hb.1 (by rw [List.length_cons]; omega) (by omega) (by rw [List.length_append]; omega)
   rw [List.length_append] at h1
   obtain ⟨f2, h2, e2⟩ := zti st s l (acc ++ [v]) f1 (fun w hw => hr w (by simp [hw])) hw.2 hb.2 (by omega) (by omega) h1
   refine ⟨f2, h2, ?_⟩
   rw [zio, if_neg (by simp; omega), zas, List.append_assoc, e1]
   have e3 : (((v :: l).length : Int) - 1) = (l.length : Int) := by simp
   rw [zio] at e2
   rw [zf9]
   simp only [e3]
   rw [e2, List.append_assoc, List.singleton_append]
theorem reads (v : CV) : ymp v := by
 refine ybi (p := ymp) (fun k n s l ih => ?_) v
 intro st r f hw hb hd ht hf
 rw [wfV] at hw
 obtain ⟨g, rfl⟩ : ∃ g, f = g + 1 := ⟨f - 1, by omega⟩
 rw [zai] at ht hf |-
 rw [ze6] at hb
 by_cases h1 : k = 1
 · subst h1
   rw [if_pos rfl] at hb ht hf |-
   simp only [Bool.and_eq_true, decide_eq_true_eq, List.isEmpty_iff] at hb
   obtain ⟨rfl, rfl⟩ := hb
   rw [List.length_append] at hf
   have e : zfo 1 = [1] := rfl
   rw [e] at hf |-
   refine ⟨g, by simp at hf; omega, ?_⟩
   rw [List.singleton_append, List.cons_append, znn hw.1 g st 1 r (by decide)]
   rfl
 · rw [if_neg h1] at hb ht hf |-
   by_cases h2 : k = 2
   · subst h2
     rw [if_pos rfl] at hb ht hf |-
     simp only [Bool.and_eq_true, decide_eq_true_eq, List.isEmpty_iff] at hb
     obtain ⟨rfl, rfl⟩ := hb
     rw [List.length_append, List.length_append] at ht hf
     have e : zfo 2 = [2] := rfl
     rw [e] at hf |-
     refine ⟨g, by simp at hf; omega, ?_⟩
     rw [List.singleton_append, List.cons_append, List.append_assoc, znn ⟨by omega, by omega⟩ g st 2 (s ++ r) (by decide)]
     rw [if_neg (by decide), if_pos (by decide), if_neg (by simp; omega)]
     rw [Int.toNat_natCast, List.take_left, List.drop_left]
   · rw [if_neg h2] at hb ht hf |-
     by_cases h3 : k = 3
     · subst h3
       rw [if_pos rfl] at hb
       simp only [Bool.and_eq_true, decide_eq_true_eq] at hb
       obtain ⟨⟨rfl, rfl⟩, hb⟩ := hb
       rw [zcx, if_pos rfl] at hd
       rw [List.length_append, List.length_append] at ht hf
       have e : zfo 3 = [3] := rfl
       rw [e] at hf |-
       have hll := zop l
       have hdn := (ylk (.mk 3 0 [] l)).2
       have hdn : 0 <= zau l := hdn
       obtain ⟨f', h5, h6⟩ := zti st r l [] g ih hw.2.2 hb (by omega) (by omega) (by simp at hf; omega)
       refine ⟨f', h5, ?_⟩
       rw [List.singleton_append, List.cons_append, List.append_assoc, znn ⟨by omega, by omega⟩ g st 3 (zas l ++ r) (by decide)]
       rw [if_neg (by decide), if_neg (by decide), if_neg (by omega), h6, List.nil_append]
     · rw [if_neg h3] at hb; cases hb
theorem yoa {v : CV} (h : zln v = 0) : ze6 v = true /\ zcx v <= 6 /\ (zbi v).length <= 8192 /\ zvs v = zbi v := by
 have ht : zvs v = zbi v := by unfold zvs; rw [if_pos h]
 unfold zln at h
 split at h
 · rename_i h1
   split at h
   · cases h
   · rename_i h2
     split at h
     · cases h
     · rename_i h3
       exact ⟨h1, by omega, by omega, ht⟩
 · cases h
theorem zta {n : Nat} {get : Nat -> Nat -> AV} {l : List CV} (hn : n = l.length) (h : ∀ i j, i < n -> j < 4 -> get i j = ze5 (zdh l i) j) : rdL (.lst 4 n get) = l /\ okL (.lst 4 n get) := by
 constructor
 · apply List.ext_getElem
   · rw [zkd, hn]
   · intro i h1 h2
     have hi : i < n := by omega
     have e : ∀ m : List CV, ∀ hm : i < m.length, m[i] = zdh m i := fun m hm => by rw [zdh, List.getD_eq_getElem?_getD, List.getElem?_eq_getElem hm]; rfl
     rw [e _ h1, e _ h2, zt9 hi, h i 0 hi (by omega), h i 1 hi (by omega), h i 2 hi (by omega), h i 3 hi (by omega), zfi, zfh, zfg, zff]
     show CV.mk _ _ _ (rdL (.lst 4 (zlo (zdh l i)) (zjw (zdh l i)))) = _
     exact zdi _
 · refine ⟨rfl, fun i hi => ?_⟩
   rw [h i 0 hi (by omega), h i 1 hi (by omega), h i 2 hi (by omega), h i 3 hi (by omega), zfi, zfh, zfg, zff]
   exact ⟨⟨_, rfl⟩, ⟨_, rfl⟩, ⟨_, rfl⟩, (zke (zdh l i)).2⟩
def okG {α : Type} (V : Vw α) : AV -> Prop
 | .agg cs => cs.length = V.sz /\ V.ok (fun j => zbn .dead cs j)
 | _ => False
def rdG {α : Type} (V : Vw α) : AV -> α
 | .agg cs => V.rd (fun j => zbn .dead cs j)
 | _ => V.d
theorem ya2 (cs : List AV) (j : Nat) : zbn .dead cs j = (cs[j]?).getD .dead := by
 induction cs generalizing j with
 | nil => cases j <;> rfl
 | cons x l ih => cases j with
   | zero => rfl
   | succ j => exact ih j
theorem gK {α : Type} {V : Vw α} (K : zmz V) (x : α) (cs : List AV) (h : cs = (List.range V.sz).map (V.cell std x)) : okG V (.agg cs) /\ rdG V (.agg cs) = x := by
 have h1 : ∀ j, j < V.sz -> zbn .dead cs j = V.cell std x j := fun j hj => by rw [ya2, h]; simp [hj]
 have h2 := K.back _ x h1
 exact ⟨⟨by simp [h], h2.1⟩, h2.2⟩
theorem G_R {α : Type} {V : Vw α} (K : zmz V) {x : AV} (ho : okG V x) {h : Array Obj} {D : Nat -> Prop} {μ : Mu} {v : Value} (r : R h D μ x v) : R h D μ (.agg ((List.range V.sz).map (V.cell std (rdG V x)))) v := by
 match x, ho with
 | .agg cs, ho =>
   obtain ⟨us, rfl, o1, s1, hr⟩ := r.inv_agg
   refine .agg _ _ (by rw [<- s1]; simp [ho.1]) o1 fun i y w hy hw => ?_
   have hi : i < V.sz := by
     have := (List.getElem?_eq_some_iff.1 hy).1
     simpa using this
   simp [hi] at hy
   subst hy
   have hc : cs[i]? = some (zbn .dead cs i) := by
     rw [ya2, List.getElem?_eq_getElem (by rw [ho.1]; exact hi)]; rfl
   exact K.turn _ ho.2 i hi _ _ _ _ (hr i _ w hc hw)
theorem zmy {α : Type} {V : Vw α} (K : zmz V) {P : Program} {f : FuncId} {x r : AV} {q : List AV} (ho : okG V x) (h : za7 P f (.agg ((List.range V.sz).map (V.cell std (rdG V x))) :: q) r) : za7 P f (x :: q) r :=
 zdl (fun h D vs hr => yh2 (fun v => G_R K ho) hr) h
structure Rt where
 h : List UInt8
 p : List UInt8
 c : List UInt8
 i : Int
 deriving DecidableEq
structure Ep where
 pl : Pl
 w : Int
 deriving DecidableEq
structure Ls where
 n : List UInt8
 pl : Pl
 rs : List Rt
 deriving DecidableEq
structure Cl where
 n : List UInt8
 es : List Ep
 deriving DecidableEq
structure Cf where
 v : Int
 ls : List Ls
 cs : List Cl
 deriving DecidableEq
def plC (L : za8) (x : Pl) : Nat -> AV
 | 0 => .int .u8 (L Pl.a x)
 | 1 => .int .u8 (L Pl.b x)
 | 2 => .int .u8 (L Pl.c x)
 | 3 => .int .u8 (L Pl.d x)
 | _ => .int .u16 (L Pl.p x)
def rdP (c : Nat -> AV) : Pl := ⟨(c 0).toI, (c 1).toI, (c 2).toI, (c 3).toI, (c 4).toI⟩
def yrb (c : Nat -> AV) : Prop := isI .u8 (c 0) /\ isI .u8 (c 1) /\ isI .u8 (c 2) /\ isI .u8 (c 3) /\ isI .u16 (c 4)
def rtC (L : za8) (x : Rt) : Nat -> AV
 | 0 => .str (L Rt.h x)
 | 1 => .str (L Rt.p x)
 | 2 => .str (L Rt.c x)
 | _ => .int .u64 (L Rt.i x)
def rtV : Vw Rt := ⟨4, rtC, fun c => ⟨zvr (c 0), zvr (c 1), zvr (c 2), (c 3).toI⟩, fun c => isS (c 0) /\ isS (c 1) /\ isS (c 2) /\ isI .u64 (c 3), ⟨[], [], [], 0⟩⟩
def zb3 (l : List Rt) (i : Nat) : Rt := zgr rtV l i
def znu (L : za8) (l : List Rt) : AV := .lst 4 (L zan l) (fun i => rtC L (L (L zb3 l) i))
def zre (x : AV) : Prop := okW rtV x
def zjd (x : AV) : List Rt := rdW rtV x
def zvz (x : AV) : Prop := okG rtV x
def zkf (x : AV) : Rt := rdG rtV x
def epC (L : za8) (x : Ep) : Nat -> AV
 | 5 => .int .i64 (L Ep.w x)
 | j => plC L (L Ep.pl x) j
def epV : Vw Ep := ⟨6, epC, fun c => ⟨rdP c, (c 5).toI⟩, fun c => yrb c /\ isI .i64 (c 5), ⟨⟨0, 0, 0, 0, 0⟩, 0⟩⟩
def zcs (l : List Ep) (i : Nat) : Ep := zgr epV l i
def zgu (L : za8) (l : List Ep) : AV := .lst 6 (L zan l) (fun i => epC L (L (L zcs l) i))
def zje (x : AV) : Prop := okW epV x
def zgp (x : AV) : List Ep := rdW epV x
def zkj (x : AV) : Prop := okG epV x
def zhi (x : AV) : Ep := rdG epV x
def lsC (L : za8) (x : Ls) : Nat -> AV
 | 0 => .str (L Ls.n x)
 | 6 => znu L (L Ls.rs x)
 | j + 1 => plC L (L Ls.pl x) j
def lsV : Vw Ls := ⟨7, lsC, fun c => ⟨zvr (c 0), rdP (fun j => c (j + 1)), rdW rtV (c 6)⟩, fun c => isS (c 0) /\ yrb (fun j => c (j + 1)) /\ okW rtV (c 6), ⟨[], ⟨0, 0, 0, 0, 0⟩, []⟩⟩
def za6 (l : List Ls) (i : Nat) : Ls := zgr lsV l i
def zem (L : za8) (l : List Ls) : AV := .lst 7 (L zan l) (fun i => lsC L (L (L za6 l) i))
def znm (x : AV) : Prop := okW lsV x
def zhg (x : AV) : List Ls := rdW lsV x
def zki (x : AV) : Prop := okG lsV x
def zhh (x : AV) : Ls := rdG lsV x
def clC (L : za8) (x : Cl) : Nat -> AV
 | 0 => .str (L Cl.n x)
 | _ => zgu L (L Cl.es x)
def clV : Vw Cl := ⟨2, clC, fun c => ⟨zvr (c 0), rdW epV (c 1)⟩, fun c => isS (c 0) /\ okW epV (c 1), ⟨[], []⟩⟩
def zaf (l : List Cl) (i : Nat) : Cl := zgr clV l i
def ze0 (L : za8) (l : List Cl) : AV := .lst 2 (L zan l) (fun i => clC L (L (L zaf l) i))
def zin (x : AV) : Prop := okW clV x
def zfn (x : AV) : List Cl := rdW clV x
def zgq (x : AV) : Prop := okG clV x
def zf7 (x : AV) : Cl := rdG clV x
def cfC (L : za8) (x : Cf) : Nat -> AV
 | 0 => .int .u64 (L Cf.v x)
 | 1 => zem L (L Cf.ls x)
 | _ => ze0 L (L Cf.cs x)
def cfV : Vw Cf := ⟨3, cfC, fun c => ⟨(c 0).toI, rdW lsV (c 1), rdW clV (c 2)⟩, fun c => isI .u64 (c 0) /\ okW lsV (c 1) /\ okW clV (c 2), ⟨0, [], []⟩⟩
def zcr (x : AV) : Prop := okG cfV x
def zac (x : AV) : Cf := rdG cfV x
theorem zdw : zmz rtV := by
 refine ⟨fun c hc j hj h D μ v r => ?_, fun c x hx => ?_⟩
 · obtain ⟨h0, h1, h2, h3⟩ := hc
   match j, hj with
   | 0, _ => exact zwc h0 r
   | 1, _ => exact zwc h1 r
   | 2, _ => exact zwc h2 r
   | 3, _ => exact zo1 h3 r
 · have e0 := hx 0 (by decide)
   have e1 := hx 1 (by decide)
   have e2 := hx 2 (by decide)
   have e3 := hx 3 (by decide)
   refine ⟨⟨⟨_, e0⟩, ⟨_, e1⟩, ⟨_, e2⟩, ⟨_, e3⟩⟩, ?_⟩
   show Rt.mk (zvr (c 0)) (zvr (c 1)) (zvr (c 2)) (c 3).toI = x
   rw [e0, e1, e2, e3]; rfl
theorem zek {c : Nat -> AV} (hc : yrb c) {j : Nat} (hj : j < 5) {h : Array Obj} {D : Nat -> Prop} {μ : Mu} {v : Value} (r : R h D μ (c j) v) : R h D μ (plC std (rdP c) j) v := by
 obtain ⟨h0, h1, h2, h3, h4⟩ := hc
 match j, hj with
 | 0, _ => exact zo1 h0 r
 | 1, _ => exact zo1 h1 r
 | 2, _ => exact zo1 h2 r
 | 3, _ => exact zo1 h3 r
 | 4, _ => exact zo1 h4 r
theorem zz7 {c : Nat -> AV} {x : Pl} (hx : ∀ j, j < 5 -> c j = plC std x j) : yrb c /\ rdP c = x := by
 have e0 := hx 0 (by decide)
 have e1 := hx 1 (by decide)
 have e2 := hx 2 (by decide)
 have e3 := hx 3 (by decide)
 have e4 := hx 4 (by decide)
 refine ⟨⟨⟨_, e0⟩, ⟨_, e1⟩, ⟨_, e2⟩, ⟨_, e3⟩, ⟨_, e4⟩⟩, ?_⟩
 unfold rdP
 rw [e0, e1, e2, e3, e4]; rfl
theorem zcj : zmz epV := by
 refine ⟨fun c hc j hj h D μ v r => ?_, fun c x hx => ?_⟩
 · obtain ⟨h0, h1⟩ := hc
   match j, hj with
   | 0, _ => exact zek h0 (by omega) r
   | 1, _ => exact zek h0 (by omega) r
   | 2, _ => exact zek h0 (by omega) r
   | 3, _ => exact zek h0 (by omega) r
   | 4, _ => exact zek h0 (by omega) r
   | 5, _ => exact zo1 h1 r
 · have e5 := hx 5 (by decide)
   have hp := zz7 (c := c) (x := x.pl) (fun j hj => by
     match j, hj with
     | 0, _ => exact hx 0 (by decide)
     | 1, _ => exact hx 1 (by decide)
     | 2, _ => exact hx 2 (by decide)
     | 3, _ => exact hx 3 (by decide)
     | 4, _ => exact hx 4 (by decide))
   refine ⟨⟨hp.1, ⟨_, e5⟩⟩, ?_⟩
   show Ep.mk (rdP c) (c 5).toI = x
   rw [hp.2, e5]; rfl
theorem zct : zmz lsV := by
 refine ⟨fun c hc j hj h D μ v r => ?_, fun c x hx => ?_⟩
 · obtain ⟨h0, h1, h2⟩ := hc
   match j, hj with
   | 0, _ => exact zwc h0 r
   | 1, _ => exact zek (c := fun j => c (j + 1)) h1 (j := 0) (by omega) r
   | 2, _ => exact zek (c := fun j => c (j + 1)) h1 (j := 1) (by omega) r
   | 3, _ => exact zek (c := fun j => c (j + 1)) h1 (j := 2) (by omega) r
   | 4, _ => exact zek (c := fun j => c (j + 1)) h1 (j := 3) (by omega) r
   | 5, _ => exact zek (c := fun j => c (j + 1)) h1 (j := 4) (by omega) r
   | 6, _ => exact znl zdw h2 r
 · have e0 := hx 0 (by decide)
   have e6 := hx 6 (by decide)
   have hp := zz7 (c := fun j => c (j + 1)) (x := x.pl) (fun j hj => by
     match j, hj with
     | 0, _ => exact hx 1 (by decide)
     | 1, _ => exact hx 2 (by decide)
     | 2, _ => exact hx 3 (by decide)
     | 3, _ => exact hx 4 (by decide)
     | 4, _ => exact hx 5 (by decide))
   have e6 : c 6 = zu1 std rtV x.rs := e6
   obtain ⟨k1, k2⟩ := zcq zdw x.rs
   rw [<- e6] at k1 k2
   refine ⟨⟨⟨_, e0⟩, hp.1, k1⟩, ?_⟩
   show Ls.mk (zvr (c 0)) (rdP fun j => c (j + 1)) (rdW rtV (c 6)) = x
   rw [hp.2, k2, e0]; rfl
theorem zbu : zmz clV := by
 refine ⟨fun c hc j hj h D μ v r => ?_, fun c x hx => ?_⟩
 · obtain ⟨h0, h1⟩ := hc
   match j, hj with
   | 0, _ => exact zwc h0 r
   | 1, _ => exact znl zcj h1 r
 · have e0 := hx 0 (by decide)
   have e1 : c 1 = zu1 std epV x.es := hx 1 (by decide)
   obtain ⟨k1, k2⟩ := zcq zcj x.es
   rw [<- e1] at k1 k2
   refine ⟨⟨⟨_, e0⟩, k1⟩, ?_⟩
   show Cl.mk (zvr (c 0)) (rdW epV (c 1)) = x
   rw [k2, e0]; rfl
theorem zc1 : zmz cfV := by
 refine ⟨fun c hc j hj h D μ v r => ?_, fun c x hx => ?_⟩
 · obtain ⟨h0, h1, h2⟩ := hc
   match j, hj with
   | 0, _ => exact zo1 h0 r
   | 1, _ => exact znl zct h1 r
   | 2, _ => exact znl zbu h2 r
 · have e0 := hx 0 (by decide)
   have e1 : c 1 = zu1 std lsV x.ls := hx 1 (by decide)
   have e2 : c 2 = zu1 std clV x.cs := hx 2 (by decide)
   obtain ⟨k1, k2⟩ := zcq zct x.ls
   obtain ⟨k3, k4⟩ := zcq zbu x.cs
   rw [<- e1] at k1 k2
   rw [<- e2] at k3 k4
   refine ⟨⟨⟨_, e0⟩, k1, k3⟩, ?_⟩
   show Cf.mk (c 0).toI (rdW lsV (c 1)) (rdW clV (c 2)) = x
   rw [k2, k4, e0]; rfl
def zql {α : Type} (f : Nat) (ok : AV -> Prop) (rd : AV -> α) (pre : α -> Prop) (val : α -> CV) (L : za8) : zbv := (f, fun xs => match xs with
 | [x] => some (L ok x /\ L pre (L rd x), cvA L (L val (L rd x)))
 | _ => none)
def zh3 {α : Type} (l : List α) : Prop := l.length <= 1000000
def zxm {α : Type} (p : α -> Prop) (l : List α) : Prop := ∀ x ∈ l, p x
def zob {α : Type} (val : α -> CV) (l : List α) : CV := zc5 (l.map val)
def zjg {α : Type} (f g : Nat) (ok : AV -> Prop) (rd : AV -> List α) (pre : List α -> Prop) (val : List α -> CV) (L : za8) : zbv := (f, fun xs => match xs with
 | [x, .fn k [] []] => match zaj k g with
   | true => some (L ok x /\ L zh3 (L rd x) /\ L pre (L rd x), cvA L (L val (L rd x)))
   | false => none
 | _ => none)
def yfs {α : Type} (L : za8) (nth : List α -> Nat -> α) (val : α -> CV) (l : List α) : Nat -> St -> Option Ann := fun id st => match id with
 | 0 => some ⟨Nat, fun i => [(10, .int .i64 (L zbd i)), (4, .ref 4 0), (5, .sl 900 4 0 i)], fun i => [(900, .row 136 4 i (fun q j => cv1 L (L val (L (L nth l) q)) j)), (4, .box 136 [.dead, .dead, .dead, .dead])], [0, 1, 8, 9], [],
     fun i => L2 L (fun (l : List α) i => i <= l.length) l i, fun i => L2 L (fun (l : List α) (i : Nat) => l.length - i) l i⟩
 | _ => none
theorem ye6 {α : Type} {V : Vw α} (val : α -> CV) {l : List α} {i : Nat} (h : i < l.length) : zdh (l.map val) i = val (zgr V l i) := by
 rw [zab h, zdh, List.getD_eq_getElem?_getD, List.getElem?_eq_getElem (by simpa using h)]; simp
theorem zju {α : Type} {V : Vw α} {val : α -> CV} {l : List α} {n : Nat} (h : n = l.length) :
   rdL (.lst 4 n fun q j => cv1 std (val (zgr V l q)) j) = l.map val /\ okL (.lst 4 n fun q j => cv1 std (val (zgr V l q)) j) :=
 zta (by simpa using h) fun i j hi hj => by rw [zsa _ _ hj, ye6 (V := V) val (by omega)]
def zhf (x : Rt) : CV := zc5 [zib x.h, zib x.p, zib x.c, zfp x.i]
def zhy (x : Ep) : CV := zc5 [zib (plB x.pl), zfp (x.w % 18446744073709551616)]
def zvi (x : Rt) : Prop := True
def zwq (x : Ep) : Prop := zvx x.pl
def zt5 (l : List Rt) : CV := zob zhf l
def zuf (l : List Ep) : CV := zob zhy l
def yh0 (l : List Rt) : Prop := zxm zvi l
def ybc (l : List Ep) : Prop := zxm zwq l
def zun : List CV -> List AV
 | [] => []
 | v :: l => .int .i64 v.kd :: .int .u64 v.nn :: .str v.tx :: .lst 4 (zlo v) (zjw v) :: zun l
theorem zq7 : ∀ (l : List CV) (i j : Nat), i < l.length -> j < 4 -> zbn .dead (zun l) (i * 4 + j) = ze5 (zdh l i) j
 | [], i, j, hi, _ => by simp at hi
 | v :: l, 0, j, _, hj => by
   match j, hj with
   | 0, _ => exact (zfi v).symm
   | 1, _ => exact (zfh v).symm
   | 2, _ => exact (zfg v).symm
   | 3, _ => exact (zff v).symm
 | v :: l, i + 1, j, hi, hj => by
   rw [show (i + 1) * 4 + j = i * 4 + j + 4 by omega]
   exact zq7 l i j (by simpa using hi) hj
theorem zlc (l : List CV) {n : Nat} {cs : List AV} (hn : n = l.length) (h : cs = zun l) : rdL (.lst 4 n fun i j => zbn .dead cs (i * 4 + j)) = l /\ okL (.lst 4 n fun i j => zbn .dead cs (i * 4 + j)) :=
 zta hn fun i j hi hj => by rw [h]; exact zq7 l i j (by omega) hj
theorem zq1 {v w : CV} (h : v = w) : zhx (cvA std v) (.agg [.int .i64 w.kd, .int .u64 w.nn, .str w.tx, .lst 4 (zlo w) (zjw w)]) := by
 subst h
 show zhx (.agg [.int .i64 v.kd, .int .u64 v.nn, .str v.tx, .lst 4 (zlo v) (zjw v)]) _
 simp [zg4, zd6, zdq, zgk, zci]
theorem zii (l : List CV) {v : CV} {n : Nat} {cs : List AV} (hv : v = zc5 l) (hn : n = l.length) (hl : l.length <= 4) (h : cs = zun l) :
   (okL (.lst 4 n fun i j => zbn .dead cs (i * 4 + j)) /\ ya3 (rdL (.lst 4 n fun i j => zbn .dead cs (i * 4 + j)))) /\
   ∀ {w : CV}, w = zc5 (rdL (.lst 4 n fun i j => zbn .dead cs (i * 4 + j))) -> zhx (cvA std v) (.agg [.int .i64 w.kd, .int .u64 w.nn, .str w.tx, .lst 4 (zlo w) (zjw w)]) := by
 obtain ⟨k1, k2⟩ := zlc l hn h
 refine ⟨⟨k2, ?_⟩, fun {w} hw => zq1 ?_⟩
 · rw [k1]
   show l.length <= 1000000
   omega
 · rw [hw, k1, hv]
theorem zvm : zb6 Tryz.prog (zql 130 zvz zkf zvi zhf std) := by
 intro xs p r h hp
 dsimp only [zql] at h |-
 split at h <;> cases h
 try simp only [L2, L3, std] at hp |-
 rename_i x
 refine zmy zdw hp.1 ?_
 have hp := hp.2
 show za7 _ _ _ (cvA std (zhf (rdG rtV x)))
 have hp : zvi (rdG rtV x) := hp
 generalize rdG rtV x = y at hp |-
 refine za4 (T := tt) (S := fun L => zat [zv1 L, zw1 L, zfj L]) (lo := fun _ => noA std) (lb := noA) 5 (fn := Tryz.f130) (xs := fun L => [.agg [.str (L Rt.h y), .str (L Rt.p y), .str (L Rt.c y), .int .u64 (L Rt.i y)]]) rfl rfl (by kernel_rfl) (by kernel_rfl) rfl za9 (za3 ⟨zji, zjl, zc7, trivial⟩) (by kernel_rfl) ?_
 intro L P' Q' hL hP hQ
 (cbv; try simp only [syT, true_and, and_true])
 (subst hL; subst hQ; simp only [L2, L3, std] at *; try simp only [syS, reduceCtorEq, Int.reduceToNat, Int.reduceAdd, Int.reduceSub] at *)
 exact ⟨(zii [zib y.h, zib y.p, zib y.c, zfp y.i] (v := zhf y) (n := 4) rfl rfl (Nat.le_of_ble_eq_true rfl) rfl).1, (zii [zib y.h, zib y.p, zib y.c, zfp y.i] (v := zhf y) (n := 4) rfl rfl (Nat.le_of_ble_eq_true rfl) rfl).2 rfl⟩
theorem zo9 : zb6 Tryz.prog (zql 132 zkj zhi zwq zhy std) := by
 intro xs p r h hp
 dsimp only [zql] at h |-
 split at h <;> cases h
 try simp only [L2, L3, std] at hp |-
 rename_i x
 refine zmy zcj hp.1 ?_
 have hp := hp.2
 show za7 _ _ _ (cvA std (zhy (rdG epV x)))
 have hp : zwq (rdG epV x) := hp
 generalize rdG epV x = y at hp |-
 refine za4 (T := tt) (S := fun L => zat [zv1 L, zw1 L, zfj L, zof L]) (lo := fun _ => noA std) (lb := noA) 5 (fn := Tryz.f132) (xs := fun L => [.agg [.int .u8 (L Pl.a (L Ep.pl y)), .int .u8 (L Pl.b (L Ep.pl y)), .int .u8 (L Pl.c (L Ep.pl y)), .int .u8 (L Pl.d (L Ep.pl y)), .int .u16 (L Pl.p (L Ep.pl y)), .int .i64 (L Ep.w y)]]) rfl rfl (by kernel_rfl) (by kernel_rfl) rfl za9 (za3 ⟨zji, zjl, zc7, zms, trivial⟩) (by kernel_rfl) ?_
 intro L P' Q' hL hP hQ
 (cbv; try simp only [syT, true_and, and_true])
 (subst hL; subst hQ; simp only [L2, L3, std] at *; try simp only [syS, reduceCtorEq, Int.reduceToNat, Int.reduceAdd, Int.reduceSub] at *)
 refine ⟨hp, (zii [zib (plB y.pl), zfp (y.w % 18446744073709551616)] (v := zhy y) (n := 2) rfl rfl (Nat.le_of_ble_eq_true rfl) rfl).1, (zii [zib (plB y.pl), zfp (y.w % 18446744073709551616)] (v := zhy y) (n := 2) rfl rfl (Nat.le_of_ble_eq_true rfl) rfl).2 rfl⟩
theorem zs3 (ih : zb6 Tryz.prog (zql 130 zvz zkf zvi zhf std)) : zb6 Tryz.prog (zjg 129 130 zre zjd yh0 zt5 std) := by
 intro xs p r h hp
 unfold zjg at h
 simp only at h
 split at h
 rotate_left
 · cases h
 rename_i x k
 cases hk : zaj k 130 with
 | false => rw [hk] at h; cases h
 | true =>
 rw [hk] at h
 obtain rfl : k = 130 := of_decide_eq_true hk
 cases h
 obtain ⟨ho, hz, ha⟩ := hp
 refine zjh zdw ho ?_
 have hz : zh3 (rdW rtV x) := hz
 have ha : zxm zvi (rdW rtV x) := ha
 show za7 _ _ _ (cvA std (zob zhf (rdW rtV x)))
 generalize rdW rtV x = l at hz ha |-
 refine za4 (T := tt) (S := fun L => zat [zql 130 zvz zkf zvi zhf L, zfj L]) (lo := fun L => yfs L zb3 zhf l) (lb := noA) 5 (fn := Tryz.f129) (xs := fun L => [znu L l, .fn 130 [] []]) rfl rfl (by kernel_rfl) (by kernel_rfl) rfl za9
   (za3 ⟨ih, zc7, trivial⟩) (by kernel_rfl) ?_
 intro L P' Q' hL hP hQ
 (cbv; try simp only [syT, true_and, and_true])
 refine ⟨⟨0, ?_⟩, fun i hi => ?_⟩
 · (cbv; try simp only [syT, true_and, and_true])
   (subst hL; subst hQ; simp only [L2, L3, std] at *; try simp only [syS, reduceCtorEq, Int.reduceToNat, Int.reduceAdd, Int.reduceSub] at *)
   exact Nat.zero_le _
 · cbv at hi
   have hG : ∀ y : Rt, L zkf (.agg [.str (L Rt.h y), .str (L Rt.p y), .str (L Rt.c y), .int .u64 (L Rt.i y)]) = y := by subst hL; exact fun y => (gK zdw y _ rfl).2
   have hO : ∀ y : Rt, L zvz (.agg [.str (L Rt.h y), .str (L Rt.p y), .str (L Rt.c y), .int .u64 (L Rt.i y)]) := by subst hL; exact fun y => (gK zdw y _ rfl).1
   (cbv; try simp only [syT, true_and, and_true])
   simp only [hG, hO, true_and]
   refine ⟨fun hlt => ⟨?_, ?_, ?_, ⟨i + 1, ?_⟩⟩, fun hge => ?_⟩
   · (subst hL; subst hQ; simp only [L2, L3, std] at *; try simp only [syS, reduceCtorEq, Int.reduceToNat, Int.reduceAdd, Int.reduceSub] at *)
     omega
   · (subst hL; subst hQ; simp only [L2, L3, std] at *; try simp only [syS, reduceCtorEq, Int.reduceToNat, Int.reduceAdd, Int.reduceSub] at *)
     exact ha _ (by rw [zb3, zab (V := rtV) (by have : zan l = l.length := rfl; omega)]; exact List.getElem_mem _)
   · (subst hL; subst hQ; simp only [L2, L3, std] at *; try simp only [syS, reduceCtorEq, Int.reduceToNat, Int.reduceAdd, Int.reduceSub] at *)
     have : zan l = l.length := rfl
     have : l.length <= 1000000 := hz
     omega
   · (cbv; try simp only [syT, true_and, and_true])
     try simp only [hG]
     (subst hL; subst hQ; simp only [L2, L3, std] at *; try simp only [syS, reduceCtorEq, Int.reduceToNat, Int.reduceAdd, Int.reduceSub] at *)
     have : zan l = l.length := rfl
     have : l.length <= 1000000 := hz
     exact ⟨fun q j hq hj => zoc (fun q => zhf (zb3 l q)) hq hj, by omega, by omega, by omega⟩
   · (subst hL; subst hQ; simp only [L2, L3, std] at *; try simp only [syS, reduceCtorEq, Int.reduceToNat, Int.reduceAdd, Int.reduceSub] at *)
     have : zan l = l.length := rfl
     obtain ⟨k1, k2⟩ := zju (V := rtV) (val := zhf) (l := l) (n := i) (by omega)
     refine ⟨⟨k2, ?_⟩, zq1 ?_⟩
     · show List.length _ <= 1000000
       have k1 : rdL (.lst 4 i fun q j => cv1 std (zhf (zb3 l q)) j) = l.map zhf := k1
       rw [k1, List.length_map]; exact hz
     · exact (congrArg zc5 k1).symm
theorem zs5 (ih : zb6 Tryz.prog (zql 132 zkj zhi zwq zhy std)) : zb6 Tryz.prog (zjg 131 132 zje zgp ybc zuf std) := by
 intro xs p r h hp
 unfold zjg at h
 simp only at h
 split at h
 rotate_left
 · cases h
 rename_i x k
 cases hk : zaj k 132 with
 | false => rw [hk] at h; cases h
 | true =>
 rw [hk] at h
 obtain rfl : k = 132 := of_decide_eq_true hk
 cases h
 obtain ⟨ho, hz, ha⟩ := hp
 refine zjh zcj ho ?_
 have hz : zh3 (rdW epV x) := hz
 have ha : zxm zwq (rdW epV x) := ha
 show za7 _ _ _ (cvA std (zob zhy (rdW epV x)))
 generalize rdW epV x = l at hz ha |-
 refine za4 (T := tt) (S := fun L => zat [zql 132 zkj zhi zwq zhy L, zfj L]) (lo := fun L => yfs L zcs zhy l) (lb := noA) 5 (fn := Tryz.f131) (xs := fun L => [zgu L l, .fn 132 [] []]) rfl rfl (by kernel_rfl) (by kernel_rfl) rfl za9
   (za3 ⟨ih, zc7, trivial⟩) (by kernel_rfl) ?_
 intro L P' Q' hL hP hQ
 (cbv; try simp only [syT, true_and, and_true])
 refine ⟨⟨0, ?_⟩, fun i hi => ?_⟩
 · (cbv; try simp only [syT, true_and, and_true])
   (subst hL; subst hQ; simp only [L2, L3, std] at *; try simp only [syS, reduceCtorEq, Int.reduceToNat, Int.reduceAdd, Int.reduceSub] at *)
   exact Nat.zero_le _
 · cbv at hi
   have hG : ∀ y : Ep, L zhi (.agg [.int .u8 (L Pl.a (L Ep.pl y)), .int .u8 (L Pl.b (L Ep.pl y)), .int .u8 (L Pl.c (L Ep.pl y)), .int .u8 (L Pl.d (L Ep.pl y)), .int .u16 (L Pl.p (L Ep.pl y)), .int .i64 (L Ep.w y)]) = y := by subst hL; exact fun y => (gK zcj y _ rfl).2
   have hO : ∀ y : Ep, L zkj (.agg [.int .u8 (L Pl.a (L Ep.pl y)), .int .u8 (L Pl.b (L Ep.pl y)), .int .u8 (L Pl.c (L Ep.pl y)), .int .u8 (L Pl.d (L Ep.pl y)), .int .u16 (L Pl.p (L Ep.pl y)), .int .i64 (L Ep.w y)]) := by subst hL; exact fun y => (gK zcj y _ rfl).1
   (cbv; try simp only [syT, true_and, and_true])
   simp only [hG, hO, true_and]
   refine ⟨fun hlt => ⟨?_, ?_, ?_, ⟨i + 1, ?_⟩⟩, fun hge => ?_⟩
   · (subst hL; subst hQ; simp only [L2, L3, std] at *; try simp only [syS, reduceCtorEq, Int.reduceToNat, Int.reduceAdd, Int.reduceSub] at *)
     omega
   · (subst hL; subst hQ; simp only [L2, L3, std] at *; try simp only [syS, reduceCtorEq, Int.reduceToNat, Int.reduceAdd, Int.reduceSub] at *)
     exact ha _ (by rw [zcs, zab (V := epV) (by have : zan l = l.length := rfl; omega)]; exact List.getElem_mem _)
   · (subst hL; subst hQ; simp only [L2, L3, std] at *; try simp only [syS, reduceCtorEq, Int.reduceToNat, Int.reduceAdd, Int.reduceSub] at *)
     have : zan l = l.length := rfl
     have : l.length <= 1000000 := hz
     omega
   · (cbv; try simp only [syT, true_and, and_true])
     try simp only [hG]
     (subst hL; subst hQ; simp only [L2, L3, std] at *; try simp only [syS, reduceCtorEq, Int.reduceToNat, Int.reduceAdd, Int.reduceSub] at *)
     have : zan l = l.length := rfl
     have : l.length <= 1000000 := hz
     exact ⟨fun q j hq hj => zoc (fun q => zhy (zcs l q)) hq hj, by omega, by omega, by omega⟩
   · (subst hL; subst hQ; simp only [L2, L3, std] at *; try simp only [syS, reduceCtorEq, Int.reduceToNat, Int.reduceAdd, Int.reduceSub] at *)
     have : zan l = l.length := rfl
     obtain ⟨k1, k2⟩ := zju (V := epV) (val := zhy) (l := l) (n := i) (by omega)
     refine ⟨⟨k2, ?_⟩, zq1 ?_⟩
     · show List.length _ <= 1000000
       have k1 : rdL (.lst 4 i fun q j => cv1 std (zhy (zcs l q)) j) = l.map zhy := k1
       rw [k1, List.length_map]; exact hz
     · exact (congrArg zc5 k1).symm
def zhp (x : Ls) : CV := zc5 [zib x.n, zib (plB x.pl), zt5 x.rs]
def zi2 (x : Cl) : CV := zc5 [zib x.n, zuf x.es]
def zw9 (x : Ls) : Prop := zvx x.pl /\ zh3 x.rs
def zwx (x : Cl) : Prop := zh3 x.es /\ ybc x.es
def ya0 (l : List Ls) : CV := zob zhp l
def ybp (l : List Cl) : CV := zob zi2 l
def yhd (l : List Ls) : Prop := zxm zw9 l
def yhs (l : List Cl) : Prop := zxm zwx l
theorem yjb (l : List Rt) : zjd (.lst 4 (zan l) fun i => rtC std (zb3 l i)) = l := (zcq zdw l).2
theorem yjt (l : List Rt) : zre (.lst 4 (zan l) fun i => rtC std (zb3 l i)) := (zcq zdw l).1
theorem zz2 (l : List Ep) : zgp (.lst 6 (zan l) fun i => epC std (zcs l i)) = l := (zcq zcj l).2
theorem zzi (l : List Ep) : zje (.lst 6 (zan l) fun i => epC std (zcs l i)) := (zcq zcj l).1
theorem yjc (l : List Ls) : zhg (.lst 7 (zan l) fun i => lsC std (za6 l i)) = l := (zcq zct l).2
theorem yju (l : List Ls) : znm (.lst 7 (zan l) fun i => lsC std (za6 l i)) := (zcq zct l).1
theorem zz3 (l : List Cl) : zfn (.lst 2 (zan l) fun i => clC std (zaf l i)) = l := (zcq zbu l).2
theorem zzj (l : List Cl) : zin (.lst 2 (zan l) fun i => clC std (zaf l i)) := (zcq zbu l).1
theorem znw : zb6 Tryz.prog (zql 79 zki zhh zw9 zhp std) := by
 intro xs p r h hp
 dsimp only [zql] at h |-
 split at h <;> cases h
 try simp only [L2, L3, std] at hp |-
 rename_i x
 refine zmy zct hp.1 ?_
 have hp := hp.2
 show za7 _ _ _ (cvA std (zhp (rdG lsV x)))
 have hp : zw9 (rdG lsV x) := hp
 generalize rdG lsV x = y at hp |-
 refine za4 (T := tt) (S := fun L => zat [zv1 L, zfj L, zof L, zjg 129 130 zre zjd yh0 zt5 L]) (lo := fun _ => noA std) (lb := noA) 5 (fn := Tryz.f79) (xs := fun L => [.agg [.str (L Ls.n y), .int .u8 (L Pl.a (L Ls.pl y)), .int .u8 (L Pl.b (L Ls.pl y)), .int .u8 (L Pl.c (L Ls.pl y)), .int .u8 (L Pl.d (L Ls.pl y)), .int .u16 (L Pl.p (L Ls.pl y)), znu L (L Ls.rs y)]]) rfl rfl (by kernel_rfl) (by kernel_rfl) rfl za9 (za3 ⟨zji, zc7, zms, zs3 zvm, trivial⟩) (by kernel_rfl) ?_
 intro L P' Q' hL hP hQ
 (cbv; try simp only [syT, true_and, and_true])
 (subst hL; subst hQ; simp only [L2, L3, std] at *; try simp only [syS, reduceCtorEq, Int.reduceToNat, Int.reduceAdd, Int.reduceSub] at *)
 simp only [yjb]
 obtain ⟨k1, k2⟩ := zii [zib y.n, zib (plB y.pl), zt5 y.rs] (v := zhp y) (n := 3) rfl rfl (Nat.le_of_ble_eq_true rfl) rfl
 exact ⟨hp.1, ⟨yjt _, hp.2, fun _ _ => trivial⟩, k1, k2 rfl⟩
theorem zq2 : zb6 Tryz.prog (zql 81 zgq zf7 zwx zi2 std) := by
 intro xs p r h hp
 dsimp only [zql] at h |-
 split at h <;> cases h
 try simp only [L2, L3, std] at hp |-
 rename_i x
 refine zmy zbu hp.1 ?_
 have hp := hp.2
 show za7 _ _ _ (cvA std (zi2 (rdG clV x)))
 have hp : zwx (rdG clV x) := hp
 generalize rdG clV x = y at hp |-
 refine za4 (T := tt) (S := fun L => zat [zv1 L, zfj L, zjg 131 132 zje zgp ybc zuf L]) (lo := fun _ => noA std) (lb := noA) 5 (fn := Tryz.f81) (xs := fun L => [.agg [.str (L Cl.n y), zgu L (L Cl.es y)]]) rfl rfl (by kernel_rfl) (by kernel_rfl) rfl za9 (za3 ⟨zji, zc7, zs5 zo9, trivial⟩) (by kernel_rfl) ?_
 intro L P' Q' hL hP hQ
 (cbv; try simp only [syT, true_and, and_true])
 (subst hL; subst hQ; simp only [L2, L3, std] at *; try simp only [syS, reduceCtorEq, Int.reduceToNat, Int.reduceAdd, Int.reduceSub] at *)
 simp only [zz2]
 obtain ⟨k1, k2⟩ := zii [zib y.n, zuf y.es] (v := zi2 y) (n := 2) rfl rfl (Nat.le_of_ble_eq_true rfl) rfl
 exact ⟨⟨zzi _, hp.1, hp.2⟩, k1, k2 rfl⟩
theorem zs4 (ih : zb6 Tryz.prog (zql 79 zki zhh zw9 zhp std)) : zb6 Tryz.prog (zjg 78 79 znm zhg yhd ya0 std) := by
 intro xs p r h hp
 unfold zjg at h
 simp only at h
 split at h
 rotate_left
 · cases h
 rename_i x k
 cases hk : zaj k 79 with
 | false => rw [hk] at h; cases h
 | true =>
 rw [hk] at h
 obtain rfl : k = 79 := of_decide_eq_true hk
 cases h
 obtain ⟨ho, hz, ha⟩ := hp
 refine zjh zct ho ?_
 have hz : zh3 (rdW lsV x) := hz
 have ha : zxm zw9 (rdW lsV x) := ha
 show za7 _ _ _ (cvA std (zob zhp (rdW lsV x)))
 generalize rdW lsV x = l at hz ha |-
 refine za4 (T := tt) (S := fun L => zat [zql 79 zki zhh zw9 zhp L, zfj L]) (lo := fun L => yfs L za6 zhp l) (lb := noA) 5 (fn := Tryz.f78) (xs := fun L => [zem L l, .fn 79 [] []]) rfl rfl (by kernel_rfl) (by kernel_rfl) rfl za9
   (za3 ⟨ih, zc7, trivial⟩) (by kernel_rfl) ?_
 intro L P' Q' hL hP hQ
 (cbv; try simp only [syT, true_and, and_true])
 refine ⟨⟨0, ?_⟩, fun i hi => ?_⟩
 · (cbv; try simp only [syT, true_and, and_true])
   (subst hL; subst hQ; simp only [L2, L3, std] at *; try simp only [syS, reduceCtorEq, Int.reduceToNat, Int.reduceAdd, Int.reduceSub] at *)
   exact Nat.zero_le _
 · cbv at hi
   have hG : ∀ y : Ls, L zhh (.agg [.str (L Ls.n y), .int .u8 (L Pl.a (L Ls.pl y)), .int .u8 (L Pl.b (L Ls.pl y)), .int .u8 (L Pl.c (L Ls.pl y)), .int .u8 (L Pl.d (L Ls.pl y)), .int .u16 (L Pl.p (L Ls.pl y)), .lst 4 (L zan (L Ls.rs y)) (fun i => rtC L (L (L zb3 (L Ls.rs y)) i))]) = y := by subst hL; exact fun y => (gK zct y _ rfl).2
   have hO : ∀ y : Ls, L zki (.agg [.str (L Ls.n y), .int .u8 (L Pl.a (L Ls.pl y)), .int .u8 (L Pl.b (L Ls.pl y)), .int .u8 (L Pl.c (L Ls.pl y)), .int .u8 (L Pl.d (L Ls.pl y)), .int .u16 (L Pl.p (L Ls.pl y)), .lst 4 (L zan (L Ls.rs y)) (fun i => rtC L (L (L zb3 (L Ls.rs y)) i))]) := by subst hL; exact fun y => (gK zct y _ rfl).1
   (cbv; try simp only [syT, true_and, and_true])
   simp only [hG, hO, true_and]
   refine ⟨fun hlt => ⟨?_, ?_, ?_, ⟨i + 1, ?_⟩⟩, fun hge => ?_⟩
   · (subst hL; subst hQ; simp only [L2, L3, std] at *; try simp only [syS, reduceCtorEq, Int.reduceToNat, Int.reduceAdd, Int.reduceSub] at *)
     omega
   · (subst hL; subst hQ; simp only [L2, L3, std] at *; try simp only [syS, reduceCtorEq, Int.reduceToNat, Int.reduceAdd, Int.reduceSub] at *)
     exact ha _ (by rw [za6, zab (V := lsV) (by have : zan l = l.length := rfl; omega)]; exact List.getElem_mem _)
   · (subst hL; subst hQ; simp only [L2, L3, std] at *; try simp only [syS, reduceCtorEq, Int.reduceToNat, Int.reduceAdd, Int.reduceSub] at *)
     have : zan l = l.length := rfl
     have : l.length <= 1000000 := hz
     omega
   · (cbv; try simp only [syT, true_and, and_true])
     try simp only [hG]
     (subst hL; subst hQ; simp only [L2, L3, std] at *; try simp only [syS, reduceCtorEq, Int.reduceToNat, Int.reduceAdd, Int.reduceSub] at *)
     have : zan l = l.length := rfl
     have : l.length <= 1000000 := hz
     exact ⟨fun q j hq hj => zoc (fun q => zhp (za6 l q)) hq hj, by omega, by omega, by omega⟩
   · (subst hL; subst hQ; simp only [L2, L3, std] at *; try simp only [syS, reduceCtorEq, Int.reduceToNat, Int.reduceAdd, Int.reduceSub] at *)
     have : zan l = l.length := rfl
     obtain ⟨k1, k2⟩ := zju (V := lsV) (val := zhp) (l := l) (n := i) (by omega)
     refine ⟨⟨k2, ?_⟩, zq1 ?_⟩
     · show List.length _ <= 1000000
       have k1 : rdL (.lst 4 i fun q j => cv1 std (zhp (za6 l q)) j) = l.map zhp := k1
       rw [k1, List.length_map]; exact hz
     · exact (congrArg zc5 k1).symm
theorem zs6 (ih : zb6 Tryz.prog (zql 81 zgq zf7 zwx zi2 std)) : zb6 Tryz.prog (zjg 80 81 zin zfn yhs ybp std) := by
 intro xs p r h hp
 unfold zjg at h
 simp only at h
 split at h
 rotate_left
 · cases h
 rename_i x k
 cases hk : zaj k 81 with
 | false => rw [hk] at h; cases h
 | true =>
 rw [hk] at h
 obtain rfl : k = 81 := of_decide_eq_true hk
 cases h
 obtain ⟨ho, hz, ha⟩ := hp
 refine zjh zbu ho ?_
 have hz : zh3 (rdW clV x) := hz
 have ha : zxm zwx (rdW clV x) := ha
 show za7 _ _ _ (cvA std (zob zi2 (rdW clV x)))
 generalize rdW clV x = l at hz ha |-
 refine za4 (T := tt) (S := fun L => zat [zql 81 zgq zf7 zwx zi2 L, zfj L]) (lo := fun L => yfs L zaf zi2 l) (lb := noA) 5 (fn := Tryz.f80) (xs := fun L => [ze0 L l, .fn 81 [] []]) rfl rfl (by kernel_rfl) (by kernel_rfl) rfl za9
   (za3 ⟨ih, zc7, trivial⟩) (by kernel_rfl) ?_
 intro L P' Q' hL hP hQ
 (cbv; try simp only [syT, true_and, and_true])
 refine ⟨⟨0, ?_⟩, fun i hi => ?_⟩
 · (cbv; try simp only [syT, true_and, and_true])
   (subst hL; subst hQ; simp only [L2, L3, std] at *; try simp only [syS, reduceCtorEq, Int.reduceToNat, Int.reduceAdd, Int.reduceSub] at *)
   exact Nat.zero_le _
 · cbv at hi
   have hG : ∀ y : Cl, L zf7 (.agg [.str (L Cl.n y), .lst 6 (L zan (L Cl.es y)) (fun i => epC L (L (L zcs (L Cl.es y)) i))]) = y := by subst hL; exact fun y => (gK zbu y _ rfl).2
   have hO : ∀ y : Cl, L zgq (.agg [.str (L Cl.n y), .lst 6 (L zan (L Cl.es y)) (fun i => epC L (L (L zcs (L Cl.es y)) i))]) := by subst hL; exact fun y => (gK zbu y _ rfl).1
   (cbv; try simp only [syT, true_and, and_true])
   simp only [hG, hO, true_and]
   refine ⟨fun hlt => ⟨?_, ?_, ?_, ⟨i + 1, ?_⟩⟩, fun hge => ?_⟩
   · (subst hL; subst hQ; simp only [L2, L3, std] at *; try simp only [syS, reduceCtorEq, Int.reduceToNat, Int.reduceAdd, Int.reduceSub] at *)
     omega
   · (subst hL; subst hQ; simp only [L2, L3, std] at *; try simp only [syS, reduceCtorEq, Int.reduceToNat, Int.reduceAdd, Int.reduceSub] at *)
     exact ha _ (by rw [zaf, zab (V := clV) (by have : zan l = l.length := rfl; omega)]; exact List.getElem_mem _)
   · (subst hL; subst hQ; simp only [L2, L3, std] at *; try simp only [syS, reduceCtorEq, Int.reduceToNat, Int.reduceAdd, Int.reduceSub] at *)
     have : zan l = l.length := rfl
     have : l.length <= 1000000 := hz
     omega
   · (cbv; try simp only [syT, true_and, and_true])
     try simp only [hG]
     (subst hL; subst hQ; simp only [L2, L3, std] at *; try simp only [syS, reduceCtorEq, Int.reduceToNat, Int.reduceAdd, Int.reduceSub] at *)
     have : zan l = l.length := rfl
     have : l.length <= 1000000 := hz
     exact ⟨fun q j hq hj => zoc (fun q => zi2 (zaf l q)) hq hj, by omega, by omega, by omega⟩
   · (subst hL; subst hQ; simp only [L2, L3, std] at *; try simp only [syS, reduceCtorEq, Int.reduceToNat, Int.reduceAdd, Int.reduceSub] at *)
     have : zan l = l.length := rfl
     obtain ⟨k1, k2⟩ := zju (V := clV) (val := zi2) (l := l) (n := i) (by omega)
     refine ⟨⟨k2, ?_⟩, zq1 ?_⟩
     · show List.length _ <= 1000000
       have k1 : rdL (.lst 4 i fun q j => cv1 std (zi2 (zaf l q)) j) = l.map zi2 := k1
       rw [k1, List.length_map]; exact hz
     · exact (congrArg zc5 k1).symm
end Sy
end Go.Proofs.YthppjaoicibeiaaGreatDoor
