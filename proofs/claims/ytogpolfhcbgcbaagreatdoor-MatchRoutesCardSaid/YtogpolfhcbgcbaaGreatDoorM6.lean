/-Chapter 3 (label): both kinds of Covers say the same of hosts that may be. Chapter 21 (match): the document's Covers, Matches, Rank. The laws of chapter 21 (match): MatchBest; and what stands between these and the texts behind.-/
import Derived.Test.YtogpolfhcbgcbaaGreatDoorM5
import Derived.Test.YtogpolfhcbgcbaaGreatDoorM4
import Derived.Test.YtogpolfhcbgcbaaGreatDoorM1
import Derived.ProofKit
import Derived.OpenShut
import Derived.LaidMore
import Derived.Lay
import Derived.Stop.Joined
import Derived.Lib.LaidTab
import Derived.Handed
import Derived.Shelf.Vars
namespace Go.Proofs.YtogpolfhcbgcbaaGreatDoor
namespace Sy
open Go Go.RowKit
set_option maxRecDepth 100000
set_option linter.unusedSimpArgs false
set_option linter.unusedVariables false
def zhr (c : UInt8) : List (List UInt8) -> List UInt8
 | [] => []
 | [x] => x
 | x :: y :: r => x ++ c :: zhr c (y :: r)
theorem zdd (c : UInt8) (x : List UInt8) {l : List (List UInt8)} (h : l ≠ []) : zhr c (x :: l) = x ++ c :: zhr c l := by
 cases l with
 | nil => exact absurd rfl h
 | cons y r => rfl
theorem zjt (c : UInt8) : ∀ s, zhr c (zaf c s) = s
 | [] => rfl
 | x :: s => by
   have ih := zjt c s
   unfold zaf
   by_cases hx : x = c
   · rw [if_pos hx, zdd _ _ (zdh c s), ih, hx]; rfl
   · rw [if_neg hx]
     cases e : zaf c s with
     | nil => exact absurd e (zdh c s)
     | cons y r =>
       rw [e] at ih
       simp only
       cases r with
       | nil =>
         have ih : y = s := ih
         show x :: y = x :: s
         rw [ih]
       | cons z r =>
         rw [zdd _ _ (by simp)] at ih |-
         rw [List.cons_append, ih]
theorem zwn (c : UInt8) {b : List (List UInt8)} (hb : b ≠ []) : ∀ {a : List (List UInt8)}, a ≠ [] -> zhr c (a ++ b) = zhr c a ++ c :: zhr c b
 | [], h => absurd rfl h
 | [x], _ => zdd c x hb
 | x :: y :: r, _ => by
   have ih := zwn c hb (a := y :: r) (by simp)
   show zhr c (x :: ((y :: r) ++ b)) = zhr c (x :: (y :: r)) ++ c :: zhr c b
   rw [zdd c x (l := (y :: r) ++ b) (by simp), ih, zdd c x (l := y :: r) (by simp), List.append_assoc]
   rfl
theorem zwm (c : UInt8) {x : List UInt8} {l : List (List UInt8)} (h : x ≠ []) : zhr c (x :: l) ≠ [] := by
 cases l with
 | nil => exact h
 | cons y r =>
   rw [zdd _ _ (by simp)]
   simp
def zic (p h : List UInt8) : Bool := decide (zbi p = zbi h) || (decide ((za9 (zbi p) [46]).head? = some [42]) && (decide (2 <= (za9 (zbi p) [46]).length) && (decide ((za9 (zbi p) [46]).length <= (za9 (zbi h) [46]).length) && decide ((za9 (zbi p) [46]).drop 1 = (za9 (zbi h) [46]).drop ((za9 (zbi h) [46]).length - (za9 (zbi p) [46]).length + 1)))))
theorem ydb {s : List UInt8} (h : zea s = true) : s ≠ [] := by
 rintro rfl
 revert h
 decide
theorem zwv {s : List UInt8} (h : zdx s = 0) : ∀ x ∈ za9 s [46], x ≠ [] := by
 unfold zdx at h
 split at h
 · cases h
 split at h
 · cases h
 split at h
 rotate_left
 · cases h
 rename_i h3
 rw [List.all_eq_true] at h3
 intro x hx
 unfold zpn at h3
 split at h3
 · rename_i h4
   cases e : za9 s [46] with
   | nil => rw [e] at hx; cases hx
   | cons y r =>
     rw [e] at hx h3 h4
     rcases List.mem_cons.1 hx with rfl | hx
     · have : x = [42] := h4.1
       rw [this]; simp
     · exact ydb (h3 x hx)
 · exact ydb (h3 x hx)
theorem yl1 {p h : List UInt8} (hp : zdx (zbi p) = 0) (hh : zdx (zbi h) = 0) : zsm p h = zic p h := by
 unfold zsm zic
 by_cases he : zbi p = zbi h
 · rw [decide_eq_true he, Bool.true_or, Bool.true_or]
 rw [decide_eq_false he, Bool.false_or, Bool.false_or]
 have ea : za9 (zbi p) [46] = zaf 46 (zbi p) := rfl
 have eb : za9 (zbi h) [46] = zaf 46 (zbi h) := rfl
 have pa := zwv hp
 have pb := zwv hh
 rw [ea, eb] at *
 have ja := zjt 46 (zbi p)
 have jb := zjt 46 (zbi h)
 generalize zbi p = P at *
 generalize zbi h = H at *
 rw [Bool.eq_iff_iff]
 simp only [Bool.and_eq_true, decide_eq_true_eq, Bool.not_eq_true', decide_eq_false_iff_not]
 constructor
 · rintro ⟨h1, h2, h3, h4⟩
   have ht : cpT P [42, 46] = P.drop 2 := by unfold cpT; rw [if_pos h1]; rfl
   rw [ht] at h2 h3 h4
   have h1' : P.take 2 = [42, 46] := by simpa [zk6] using h1
   have e1 : P = [42] ++ 46 :: P.drop 2 := by
     conv => lhs; rw [<- List.take_append_drop 2 P, h1']
     rfl
   generalize P.drop 2 = T at *
   have sA : zaf 46 P = [42] :: zaf 46 T := by
     rw [e1, zl5]; rfl
   unfold yna at h4
   rw [Bool.and_eq_true] at h4
   have h5 := of_decide_eq_true h4.2
   have h6 := of_decide_eq_true h4.1
   obtain ⟨pre, hpre⟩ : ∃ pre, pre = H.take (H.length - (46 :: T : List UInt8).length) := ⟨_, rfl⟩
   have e2 : H = pre ++ 46 :: T := by
     conv => lhs; rw [<- List.take_append_drop (H.length - (46 :: T : List UInt8).length) H, h5]
     rw [hpre]
   have sB : zaf 46 H = zaf 46 pre ++ zaf 46 T := by rw [e2, zl5]
   have n1 : 0 < (zaf 46 T).length := List.length_pos_iff.2 (zdh _ _)
   have n2 : 0 < (zaf 46 pre).length := List.length_pos_iff.2 (zdh _ _)
   rw [sA, sB]
   refine ⟨rfl, ?_, ?_, ?_⟩
   · rw [List.length_cons]; omega
   · rw [List.length_cons, List.length_append]; omega
   · rw [List.length_cons, List.length_append, show (zaf 46 pre).length + (zaf 46 T).length - ((zaf 46 T).length + 1) + 1 = (zaf 46 pre).length by omega, List.drop_left]
     rfl
 · rintro ⟨h1, h2, h3, h4⟩
   obtain ⟨A', hA⟩ : ∃ A', zaf 46 P = [42] :: A' := by
     cases e : zaf 46 P with
     | nil => exact absurd e (zdh _ _)
     | cons y r => rw [e] at h1; cases h1; exact ⟨r, rfl⟩
   rw [hA] at h2 h3 h4 ja pa
   have h4 : A' = (zaf 46 H).drop ((zaf 46 H).length - ([42] :: A' : List (List UInt8)).length + 1) := h4
   have hne : A' ≠ [] := by
     rintro rfl
     rw [List.length_singleton] at h2
     omega
   rw [zdd _ _ hne] at ja
   obtain ⟨B0, hB0⟩ : ∃ B0, B0 = (zaf 46 H).take ((zaf 46 H).length - ([42] :: A' : List (List UInt8)).length + 1) := ⟨_, rfl⟩
   have hB : zaf 46 H = B0 ++ A' := by
     conv => lhs; rw [<- List.take_append_drop ((zaf 46 H).length - ([42] :: A' : List (List UInt8)).length + 1) (zaf 46 H), <- h4, <- hB0]
   have hl0 : B0.length = (zaf 46 H).length - ([42] :: A' : List (List UInt8)).length + 1 := by
     rw [hB0, List.length_take]
     rw [List.length_cons] at h3 |-
     have : 0 < A'.length := List.length_pos_iff.2 hne
     omega
   have hne0 : B0 ≠ [] := by
     rintro rfl
     rw [List.length_nil] at hl0
     omega
   rw [hB, zwn 46 hne hne0] at jb
   obtain ⟨x0, r0, rfl⟩ : ∃ x r, B0 = x :: r := by
     cases B0 with
     | nil => exact absurd rfl hne0
     | cons x r => exact ⟨x, r, rfl⟩
   obtain ⟨x1, r1, rfl⟩ : ∃ x r, A' = x :: r := by
     cases A' with
     | nil => exact absurd rfl hne
     | cons x r => exact ⟨x, r, rfl⟩
   have hx0 : zhr 46 (x0 :: r0) ≠ [] := zwm 46 (pb x0 (by rw [hB]; simp))
   have hx1 : zhr 46 (x1 :: r1) ≠ [] := zwm 46 (pa x1 (by simp))
   generalize zhr 46 (x0 :: r0) = U at *
   generalize zhr 46 (x1 :: r1) = T at *
   have ja : P = [42, 46] ++ T := ja.symm
   have h1 : zk6 P [42, 46] = true := by rw [ja]; simp [zk6]
   have ht : cpT P [42, 46] = T := by unfold cpT; rw [if_pos h1, ja]; rfl
   rw [ht]
   have hu : 0 < U.length := List.length_pos_iff.2 hx0
   refine ⟨h1, hx1, ?_, ?_⟩
   · rw [<- jb, List.length_append, List.length_cons]; omega
   · unfold yna
     rw [<- jb, List.length_append, decide_eq_true (by omega), show U.length + (46 :: T : List UInt8).length - (46 :: T : List UInt8).length = U.length by omega, List.drop_left, decide_eq_true rfl]
     rfl
end Sy
end Go.Proofs.YtogpolfhcbgcbaaGreatDoor
namespace Go.Proofs.YtogpolfhcbgcbaaGreatDoor
namespace Sy
open Go Go.RowKit
set_option maxRecDepth 100000
set_option maxHeartbeats 4000000
set_option linter.unusedSimpArgs false
set_option linter.unusedVariables false
def zbo (s : List UInt8) : List Lbx := spC (zbi s) 46
theorem zui (s : List UInt8) : zbo s = za9 (zbi s) [46] := rfl
theorem ztt (s : List UInt8) : (zbi s).length = s.length := by simp [zbi]
theorem zpz (s : List UInt8) : (zbo s).length <= s.length + 1 /\ 0 < (zbo s).length := by
 rw [zui]
 have h2 : (za9 (zbi s) [46]).length = cntB (zbi s) [46] + 1 := zap (by1 [46]) (zbi s)
 have := zo9 (zbi s) [46]
 rw [ztt] at this
 omega
def rcvI (p h : List UInt8) (i : Nat) : Prop := 1 <= i /\ i <= (zbo p).length /\ ∀ j, 1 <= j -> j < i -> zc1 (zbo p) j = zc1 (zbo h) ((zbo h).length - (zbo p).length + j)
def yx3 (p : List UInt8) (i : Nat) : Nat := (zbo p).length - i
def rcvA (L : zab) (p h : List UInt8) : Nat -> St -> Option Ann := fun id st => match id with
 | 0 => some ⟨Nat, fun i => [(7, .int .i64 (L za7 i))], fun i => [], [5, 6], [], fun i => L3 L rcvI p h i, fun i => L2 L yx3 p i⟩
 | _ => none
def yih (p h : List UInt8) : Prop := p.length <= 900000 /\ h.length <= 900000
def yo3 (L : zab) : zbb := (34, fun xs => match xs with
 | [.str p, .str h] => some (L2 L yih p h, .bool (L2 L zic p h))
 | _ => none)
theorem zjj (p h : List UInt8) : zic p h = (decide (zbi p = zbi h) || (decide (zc1 (zbo p) 0 = [42]) && (decide (2 <= (zbo p).length) && (decide ((zbo p).length <= (zbo h).length) && decide ((zbo p).drop 1 = (zbo h).drop ((zbo h).length - (zbo p).length + 1)))))) := by
 unfold zic
 rw [<- zui, <- zui]
 obtain ⟨_, h0⟩ := zpz p
 have e : decide ((zbo p).head? = some [42]) = decide (zc1 (zbo p) 0 = [42]) := by
   generalize zbo p = l at h0
   cases l with
   | nil => exact absurd h0 (by simp)
   | cons y r => simp [zc1]
 rw [e]
theorem yig : zay Tryz.prog (yo3 std) := by
 intro xs p r h hp
 dsimp only [yo3] at h |-
 split at h <;> cases h
 try simp only [L2, L3, std] at hp |-
 rename_i p h
 obtain ⟨hp, hh⟩ : yih p h := hp
 refine za8 (T := tt) (S := fun L => zam [zov L, znf L]) (lo := fun L => rcvA L p h) (lb := noA) 5 (fn := Tryz.f34) (xs := fun L => [.str p, .str h]) rfl rfl (by kernel_rfl) (by kernel_rfl) rfl zac (za2 ⟨znd, zib, trivial⟩) (by kernel_rfl) ?_
 intro L P' Q' hL hP hQ
 obtain ⟨lA, zA⟩ := zpz p
 obtain ⟨lB, zB⟩ := zpz h
 (cbv; try simp only [syT, true_and, and_true])
 have no : ∀ {q : Prop} {_ : Decidable q}, (¬ q) -> decide q = false := fun h => decide_eq_false h
 refine ⟨?_, ⟨?_, ?_⟩, ?_, ⟨?_, ?_⟩, ?_, ?_, fun he => ?_, fun hn => ⟨?_, fun h1 => ?_, fun h1 => ⟨fun h2 => ?_, fun h2 => ⟨fun h3 => ?_, fun h3 => ⟨⟨1, ?_⟩, fun i hi => ?_⟩⟩⟩⟩⟩
 · rw [hL]; show p.length <= 9223372036854775807; omega
 · rw [hL]; show (zbi p).length <= 1000000; rw [ztt]; omega
 · rw [hL]; exact ⟨by decide, by decide⟩
 · rw [hL]; show h.length <= 9223372036854775807; omega
 · rw [hL]; show (zbi h).length <= 1000000; rw [ztt]; omega
 · rw [hL]; exact ⟨by decide, by decide⟩
 · rw [hL]; show p.length <= 9223372036854775807; omega
 · rw [hL]; show h.length <= 9223372036854775807; omega
 · subst hL; subst hQ
   have he : seq (zbi p) (zbi h) = true := he
   rw [ybr] at he
   rw [zah]
   show true = zic p h
   rw [zjj, decide_eq_true he, Bool.true_or]
 · rw [hL]
   show inR 0 (za7 (zbo p).length) = true
   exact zf9 (i := 0) zA
 all_goals
   have kn : zbi p ≠ zbi h := by
     rw [hL] at hn
     have hn : seq (zbi p) (zbi h) = false := hn
     rw [ybs] at hn; exact hn
 · subst hL; subst hQ
   have h1 : (!seq (zc1 (zbo p) 0) [42]) = true := h1
   rw [Bool.not_eq_true', ybs] at h1
   rw [zah]
   show false = zic p h
   rw [zjj, decide_eq_false kn, decide_eq_false h1]; rfl
 all_goals
   have k1 : zc1 (zbo p) 0 = [42] := by
     rw [hL] at h1
     have h1 : (!seq (zc1 (zbo p) 0) [42]) = false := h1
     rw [Bool.not_eq_false', ybr] at h1; exact h1
 · subst hL; subst hQ
   have h2 : ilt (za7 (zbo p).length) 2 = true := h2
   rw [zcp, za1] at h2
   rw [zah]
   show false = zic p h
   rw [zjj, decide_eq_false kn, decide_eq_false (show ¬ 2 <= (zbo p).length by omega), Bool.false_and, Bool.and_false]; rfl
 all_goals
   have k2 : 2 <= (zbo p).length := by
     rw [hL] at h2
     have h2 : ilt (za7 (zbo p).length) 2 = false := h2
     rw [zeh, za1] at h2; omega
 · subst hL; subst hQ
   have h3 : ilt (za7 (zbo h).length) (za7 (zbo p).length) = true := h3
   rw [zcp, za1, za1] at h3
   rw [zah]
   show false = zic p h
   rw [zjj, decide_eq_false kn, decide_eq_false (show ¬ (zbo p).length <= (zbo h).length by omega), Bool.false_and, Bool.and_false, Bool.and_false]; rfl
 all_goals
   have k3 : (zbo p).length <= (zbo h).length := by
     rw [hL] at h3
     have h3 : ilt (za7 (zbo h).length) (za7 (zbo p).length) = false := h3
     rw [zeh, za1, za1] at h3; omega
 · (cbv; try simp only [syT, true_and, and_true])
   subst hL
   exact ⟨fun _ _ _ _ => trivial, fun _ _ _ _ => trivial, rfl, Nat.le_refl _, by omega, fun j a b => by omega⟩
 · obtain ⟨hi1, hi2, hi3⟩ : rcvI p h i := by
     have h := hi
     rw [hL] at h
     exact h
   clear hi
   obtain ⟨i', hi'⟩ : ∃ i', i' = i + 1 := ⟨_, rfl⟩
   (cbv; try simp only [syT, true_and, and_true])
   have hA : zbo p = spC (zbi p) 46 := rfl
   have hB : zbo h = spC (zbi h) 46 := rfl
   refine ⟨fun hlt => ?_, fun hge => ?_⟩
   · have hil : i < (zbo p).length := by
       rw [hL] at hlt
       have q : ilt (za7 i) (za7 (zbo p).length) = true := hlt
       rw [zcp, za1, za1] at q; omega
     have e1 : zfi .i64 (zj7 .i64 (za7 (zbo h).length) (za7 (zbo p).length)) (za7 i) = za7 ((zbo h).length - (zbo p).length + i) := by
       have e0 : zj7 .i64 (za7 (zbo h).length) (za7 (zbo p).length) = za7 ((zbo h).length - (zbo p).length) := by
         rw [za1, za1, za1]; unfold zj7; rw [zha]; omega
       rw [e0, za1, za1, za1]; unfold zfi; rw [zha]; omega
     refine ⟨?_, ?_, fun hne => ?_, fun heq => ⟨i', ?_⟩⟩
     · rw [hL]; show inR (za7 i) (za7 (zbo p).length) = true
       exact zf9 hil
     · rw [hL]; show inR (zfi .i64 (zj7 .i64 (za7 (zbo h).length) (za7 (zbo p).length)) (za7 i)) (za7 (zbo h).length) = true
       rw [e1]; exact zf9 (by omega)
     · subst hL; subst hQ
       have q : (!seq (zc1 (zbo p) i) (zc1 (zbo h) (zfi .i64 (zj7 .i64 (za7 (zbo h).length) (za7 (zbo p).length)) (za7 i)).toNat)) = true := hne
       rw [e1, Bool.not_eq_true', ybs] at q
       rw [zah]
       show false = zic p h
       rw [zjj, decide_eq_false kn, decide_eq_true k1, decide_eq_true k2, decide_eq_true k3, decide_eq_false]; rfl
       intro e
       refine q ?_
       show zc1 (zbo p) i = zc1 (zbo h) ((zbo h).length - (zbo p).length + i)
       have e2 : ((zbo p).drop 1)[i - 1]? = ((zbo h).drop ((zbo h).length - (zbo p).length + 1))[i - 1]? := by rw [e]
       rw [List.getElem?_drop, List.getElem?_drop, show 1 + (i - 1) = i by omega, show (zbo h).length - (zbo p).length + 1 + (i - 1) = (zbo h).length - (zbo p).length + i by omega] at e2
       unfold zc1
       rw [List.getD_eq_getElem?_getD, List.getD_eq_getElem?_getD, e2]
     · have q : zc1 (zbo p) i = zc1 (zbo h) ((zbo h).length - (zbo p).length + i) := by
         rw [hL] at heq
         have q : (!seq (zc1 (zbo p) i) (zc1 (zbo h) (zfi .i64 (zj7 .i64 (za7 (zbo h).length) (za7 (zbo p).length)) (za7 i)).toNat)) = false := heq
         rw [e1, Bool.not_eq_false', ybr] at q
         exact q
       (cbv; try simp only [syT, true_and, and_true])
       subst hL
       refine ⟨fun _ _ _ _ => trivial, fun _ _ _ _ => trivial, ?_, ⟨by omega, by omega, fun j a b => ?_⟩, ?_⟩
       · show zfi .i64 (za7 i) 1 = za7 i'
         rw [hi', zd0 hil (by omega)]
       · by_cases hj : j < i
         · exact hi3 j a hj
         · obtain rfl : j = i := by omega
           exact q
       · show (zbo p).length - i' < (zbo p).length - i
         omega
   · subst hL; subst hQ
     have q : ilt (za7 i) (za7 (zbo p).length) = false := hge
     rw [zeh, za1, za1] at q
     rw [zah]
     show true = zic p h
     rw [zjj, decide_eq_false kn, decide_eq_true k1, decide_eq_true k2, decide_eq_true k3, decide_eq_true]; rfl
     apply List.ext_getElem?
     intro j
     rw [List.getElem?_drop, List.getElem?_drop]
     by_cases hj : 1 + j < (zbo p).length
     · have := hi3 (1 + j) (by omega) (by omega)
       unfold zc1 at this
       rw [List.getD_eq_getElem?_getD, List.getD_eq_getElem?_getD, List.getElem?_eq_getElem hj, List.getElem?_eq_getElem (by omega), Option.getD_some, Option.getD_some] at this
       rw [List.getElem?_eq_getElem hj, List.getElem?_eq_getElem (by omega), this]
       congr 2
       omega
     · rw [List.getElem?_eq_none (by omega), List.getElem?_eq_none (by omega)]
def ywz (q : Mq) : Prop := zmy q /\ zdx (zbi q.h) = 0 /\ zdx (zbi q.host) = 0
noncomputable def yid (L : zab) : zbb := (16, fun xs => match xs with
 | [.agg [.str h, .str p, .str c, .int .u64 i], .str host, .str path] => some (L ywz (zil L h p host path), .bool (L mtB (zil L h p host path)))
 | _ => none)
theorem zvf : zay Tryz.prog (yid std) := by
 intro xs p r h hp
 dsimp only [yid] at h |-
 split at h <;> cases h
 try simp only [L2, L3, std] at hp |-
 rename_i h p c i host path
 obtain ⟨⟨h1, h2, h3, h4⟩, z1, z2⟩ : ywz ⟨h, p, host, path⟩ := hp
 have h1 : h.length <= 900000 := h1
 have h2 : p.length <= 900000 := h2
 have h3 : host.length <= 900000 := h3
 have h4 : path.length <= 900000 := h4
 refine zaa (T := tt) (S := fun L => zam [zsy L, yo3 L, ych L]) (lo := noA) (lb := noA) 5 (fn := Tryz.f16) rfl rfl (by kernel_rfl) (by kernel_rfl) rfl zac (za2 ⟨zyg, yig, yci, trivial⟩) (by kernel_rfl) ?_
 intro L P' Q' hL hP hQ
 (cbv; try simp only [syT, true_and, and_true])
 subst hL; subst hQ
 have e : mtB (zil std h p host path) = (decide (zgd path = 0) && (zic h host && zsj p path)) := by
   rw [<- yl1 (p := h) (h := host) z1 z2]; rfl
 refine ⟨by show path.length <= 1000000000; omega, fun k => ⟨⟨by omega, by omega⟩, fun k2 => ⟨⟨h2, h4⟩, ?_⟩, fun k2 => ?_⟩, fun k => ?_⟩
 · have k : ieq (zgd path) 0 = true := k
   rw [zn2] at k
   have k2 : zic h host = true := k2
   rw [zah, e, k2, decide_eq_true k]; rfl
 · have k2 : zic h host = false := k2
   rw [zah, e, k2, Bool.false_and, Bool.and_false]
 · have k : ieq (zgd path) 0 = false := k
   rw [zzf] at k
   rw [zah, e, decide_eq_false k, Bool.false_and]
def yia (L : zab) : zbb := (17, fun xs => match xs with
 | [.agg [.str h, .str p, .str c, .int .u64 i]] => some (L2 L yih h p, .tup [.int .i64 (L rkA h), .int .i64 (L rkB p)])
 | _ => none)
theorem zvc : zay Tryz.prog (yia std) := by
 intro xs p r h hp
 dsimp only [yia] at h |-
 split at h <;> cases h
 try simp only [L2, L3, std] at hp |-
 rename_i h p c i
 obtain ⟨h1, h2⟩ : yih h p := hp
 refine zaa (T := tt) (S := fun L => zam [znf L, zvd L]) (lo := noA) (lb := noA) 5 (fn := Tryz.f17) rfl rfl (by kernel_rfl) (by kernel_rfl) rfl zac (za2 ⟨zib, zqt, trivial⟩) (by kernel_rfl) ?_
 intro L P' Q' hL hP hQ
 (cbv; try simp only [syT, true_and, and_true])
 subst hL; subst hQ
 have hlen : (spC h 46).length = h.count 46 + 1 := zap 46 h
 have hc : h.count 46 <= h.length := List.count_le_length
 have e0 : rkA h = 2 * ((h.count 46 : Nat) + 1 : Int) - (if zk6 h [42] = true then 1 else 0) := rfl
 have e1 : zsp .i64 2 (za7 (spC h 46).length) = 2 * ((h.count 46 : Nat) + 1 : Int) := by
   rw [hlen, za1]; unfold zsp; rw [zha]; omega
 have e2 : zj7 .i64 (zsp .i64 2 (za7 (spC h 46).length)) 1 = 2 * ((h.count 46 : Nat) + 1 : Int) - 1 := by
   rw [e1]; unfold zj7; rw [zha]; omega
 have eB : za7 (za5 p).length = rkB p := rfl
 have fin : ∀ x y : Int, x = rkA h -> zg4 (AV.tup [AV.int IntKind.i64 (rkA h), AV.int IntKind.i64 (rkB p)]) (AV.tup [AV.int IntKind.i64 x, AV.int IntKind.i64 (za7 (za5 p).length)]) := fun x _ hx => by
   rw [zko, zde, zde, ziu, zgr, zgr, hx, eB]; exact ⟨rfl, rfl, trivial⟩
 refine ⟨⟨show h.length <= 1000000 by omega, by decide, by decide⟩, fun k => ⟨?_, fun k2 => ⟨h2, fin _ 0 ?_⟩, fun k2 => ⟨h2, fin _ 0 ?_⟩⟩, fun k => ⟨h2, fin _ 0 ?_⟩⟩
 · have k : ilt 0 (slen h) = true := k
   rw [zcp, zgb] at k
   show inR 0 (slen h) = true
   rw [zn1, zgb]; omega
 · have k : ilt 0 (slen h) = true := k
   rw [zcp, zgb] at k
   have k2 : ieq (zhh h 0) 42 = true := k2
   show zj7 .i64 (zsp .i64 2 (za7 (spC h 46).length)) 1 = rkA h
   rw [e2, e0, if_pos]
   cases h with
   | nil => simp at k
   | cons x r =>
     rw [zn2] at k2
     have k2 : (x.toNat : Int) = 42 := k2
     have : x = 42 := by apply UInt8.toNat_inj.1; show x.toNat = 42; omega
     rw [this]; rfl
 · have k2 : ieq (zhh h 0) 42 = false := k2
   show zsp .i64 2 (za7 (spC h 46).length) = rkA h
   rw [e1, e0, if_neg, Int.sub_zero]
   intro e
   cases h with
   | nil => exact absurd e (by decide)
   | cons x r =>
     have e : some x = some (42 : UInt8) := by rw [yog] at e; exact e
     cases e
     exact absurd k2 (by show ¬ (ieq 42 42 = false); decide)
 · have k : ilt 0 (slen h) = false := k
   rw [zeh, zgb] at k
   show zsp .i64 2 (za7 (spC h 46).length) = rkA h
   rw [e1, e0, if_neg, Int.sub_zero]
   have : h = [] := List.eq_nil_of_length_eq_zero (by omega)
   rw [this]; decide
end Sy
end Go.Proofs.YtogpolfhcbgcbaaGreatDoor
namespace Go.Proofs.YtogpolfhcbgcbaaGreatDoor
namespace Sy
open Go Go.RowKit
set_option maxRecDepth 100000
set_option maxHeartbeats 4000000
set_option linter.unusedSimpArgs false
set_option linter.unusedVariables false
def yrr (s : List UInt8) : Prop := s.length <= maxLen
def ys9 (x : Rt) : Prop := yrr x.h
def yhd (x : Ls) : Prop := ∀ r ∈ x.rs, ys9 r
theorem yde {H : Type} {enc : TypeId × Value -> H} {W : World} : zex enc Tryz.prog W 37 Rt 4 (rtC std) ys9 :=
 (zgf Tryz.underlying37 (by kernel_rfl) (zbq rfl (opens_str Tryz.underlying9 (by kernel_rfl)) (zbq rfl (opens_str Tryz.underlying9 (by kernel_rfl)) (zbq rfl (opens_str Tryz.underlying9 (by kernel_rfl)) (zbq rfl (zln Tryz.underlying35 (by kernel_rfl)) (zjm _)))))).turn
   (fun y => Rt.mk y.1 y.2.1 y.2.2.1 y.2.2.2.1) (fun y h => h.1)
   (fun y h j hj v r => by match j, hj with | 0, _ => exact r | 1, _ => exact r | 2, _ => exact r | 3, _ => exact r)
theorem opens_LsZ {H : Type} {enc : TypeId × Value -> H} {W : World} : zex enc Tryz.prog W 28 Ls 7 (lsC std) yhd :=
 (zgf Tryz.underlying28 (by kernel_rfl) (zbq rfl (opens_str Tryz.underlying9 (by kernel_rfl)) (zbq rfl yit (zbq rfl (zyv (V := rtV) Tryz.underlying26 (by kernel_rfl) yde (by decide)) (zjm _))))).turn
   (fun y => Ls.mk y.1 y.2.1 y.2.2.1) (fun y h => h.2.2.1.2)
   (fun y h j hj v r => by match j, hj with | 0, _ => exact r | 1, _ => exact r | 2, _ => exact r | 3, _ => exact r | 4, _ => exact r | 5, _ => exact r | 6, _ => exact r)
theorem ydz : maxLen <= 9223372036854775807 := by decide
theorem yud {y : Ls} {host : List UInt8} (hy : yhd y) (hh : yrr host) : ypi y host := ⟨Nat.le_trans hh ydz, fun r hr => Nat.le_trans (hy r hr) ydz⟩
theorem ftt : zg4 (.bool true) (.bool true) := by rw [zah]
end Sy
end Go.Proofs.YtogpolfhcbgcbaaGreatDoor
namespace Go.Proofs.YtogpolfhcbgcbaaGreatDoor
namespace Sy
open Go Go.RowKit
set_option maxRecDepth 100000
set_option maxHeartbeats 4000000
set_option linter.unusedSimpArgs false
set_option linter.unusedVariables false
noncomputable def srM (c : Mc) (i : Nat) : List Iz := zhb (ltM (mcB c)) (slM c i)
theorem ynf (c : Mc) (i : Nat) : (srM c i).length = slN c i := zoo _ _
noncomputable def raJ (c : Mc) (i j : Nat) : Prop := j <= slN c i /\ ∀ q, j <= q -> q < slN c i -> ltM (mcB c) (i : Int) (zak (srM c i) q) = true
noncomputable def yx4 (L : zab) (c : Mc) : Nat -> St -> Option Ann := fun id st => match id with
 | 0 => some ⟨Nat, fun i => [(19, .int .i64 (L za7 i)), (7, .sl 900 1 0 (L2 L slN c i))], fun i => [(900, .row 3 1 (L2 L slN c i) (fun q => izC L (L (L zak (L2 L srM c i)) q)))], [1, 2, 3, 17, 18], [3], fun i => L2 L slI c i, fun i => L2 L slMu c i⟩
 | 2 => zom st 19 fun k => some ⟨Nat, fun j => [(12, .int .i64 (L za7 j))], fun j => [], [1, 2, 3, 7, 8, 10, 11, 17, 18, 19], [3, 900], fun j => L3 L raJ c (L Int.toNat k) j, fun j => j⟩
 | _ => none
def yvz (c : Mc) : Prop := yxi c /\ zzn c.y c.host = true
theorem yt3 {c : Mc} (h : yvz c) {i : Nat} (hi : i < c.y.rs.length) : ywz (mbQ (mcB c) i) := by
 obtain ⟨⟨h1, h2⟩, h3⟩ := h
 unfold zzn at h3
 simp only [Bool.and_eq_true, decide_eq_true_eq, List.all_eq_true] at h3
 obtain ⟨h3, _, h4⟩ := h3
 have := h4 (zao c.y.rs i) (by rw [show zao c.y.rs i = c.y.rs[i] from zas hi]; exact List.getElem_mem _)
 unfold hrB at this
 simp only [Bool.and_eq_true, decide_eq_true_eq] at this
 exact ⟨zk8 (c := mcB c) h1 hi, this.1, h3⟩
theorem yo6 {l : List Iz} {x : Iz} {j q : Nat} (hj : j <= l.length) : zak (l.take j ++ x :: l.drop j) q = if q < j then zak l q else if q = j then x else zak l (q - 1) := by
 rw [zwo, zwo, zwo, List.getD_eq_getElem?_getD, List.getD_eq_getElem?_getD, List.getD_eq_getElem?_getD]
 have hl : (l.take j).length = j := by rw [List.length_take]; omega
 by_cases h1 : q < j
 · rw [if_pos h1, List.getElem?_append_left (by omega), List.getElem?_take_of_lt h1]
 · rw [if_neg h1, List.getElem?_append_right (by omega), hl]
   by_cases h2 : q = j
   · rw [if_pos h2, h2, Nat.sub_self]; rfl
   · rw [if_neg h2]
     obtain ⟨d, hd⟩ : ∃ d, q - j = d + 1 := ⟨q - j - 1, by omega⟩
     rw [hd, List.getElem?_cons_succ, List.getElem?_drop, show j + d = q - 1 by omega]
theorem yo5 {c : Mc} (hc : yvz c) : zad Tryz.prog 15 (.agg ((List.range 7).map (lsC std c.y)) :: .str c.host :: .str c.path :: []) (.lst 1 (slE c) (fun q => izC std (zak (alZ c) q))) := by
 refine za8 (T := tt) (S := fun L => zam [yid L, yia L]) (lo := fun L => yx4 L c) (lb := noA) 5 (fn := Tryz.f15) (xs := fun L => [.agg [lsC L (L Mc.y c) 0, lsC L (L Mc.y c) 1, lsC L (L Mc.y c) 2, lsC L (L Mc.y c) 3, lsC L (L Mc.y c) 4, lsC L (L Mc.y c) 5, lsC L (L Mc.y c) 6], .str (L Mc.host c), .str (L Mc.path c)]) rfl rfl (by kernel_rfl) (by kernel_rfl) rfl zac (za2 ⟨zvf, zvc, trivial⟩) (by kernel_rfl) ?_
 intro L P' Q' hL hP hQ
 obtain ⟨hmc, h20⟩ := hc.1
 have hrm := fun i hi => yt3 hc (i := i) hi
 (cbv; try simp only [syT, true_and, and_true])
 refine ⟨⟨0, ?_⟩, fun i hi => ?_⟩
 · (cbv; try simp only [syT, true_and, and_true])
   subst hL
   repeat' first | exact trivial | exact rfl | exact fun _ _ _ _ => trivial | exact Nat.zero_le _ | apply And.intro
 · have hi2 : i <= c.y.rs.length := by
     have h := hi
     rw [hL] at h
     exact h
   clear hi
   obtain ⟨i', hi'⟩ : ∃ i', i' = i + 1 := ⟨_, rfl⟩
   have hto : ∀ k : Nat, L Int.toNat (L za7 k) = k := fun k => by rw [hL]; rfl
   (cbv; try simp only [syT, true_and, and_true])
   simp only [hto]
   obtain ⟨q, hq⟩ : ∃ q, zil L (L Rt.h (L (L zao (L Ls.rs (L Mc.y c))) i)) (L Rt.p (L (L zao (L Ls.rs (L Mc.y c))) i)) (L Mc.host c) (L Mc.path c) = q := ⟨_, rfl⟩
   have hqq : q = mbQ (mcB c) i := by rw [<- hq, hL]; rfl
   simp only [hq]
   refine ⟨fun hlt => ?_, fun hge => ?_⟩
   · have hil : i < c.y.rs.length := by
       have h := hlt
       rw [hL] at h
       have h2 : ilt (za7 i) (za7 c.y.rs.length) = true := h
       rw [zcp, za1, za1] at h2; omega
     have hln : slN c i <= i := zi7 (mcB c) i
     have hsl := ynf c i
     obtain ⟨n0, hn0⟩ : ∃ n0, n0 = slN c i := ⟨_, rfl⟩
     refine ⟨?_, ?_, fun hm => ⟨i', ?_⟩, fun hm => ⟨?_, ⟨n0, ?_⟩, fun j hj => ?_⟩⟩
     · rw [hL]
       show inR (za7 i) (za7 c.y.rs.length) = true
       exact zf9 hil
     · rw [hL, hqq]; exact hrm i hil
     · have hs : slM c i' = slM c i := by
         have h := hm
         rw [hL, hqq] at h
         have h : (!mtB (mbQ (mcB c) i)) = true := h
         unfold slM
         rw [hi', zk2, if_neg]
         intro h2; rw [h2] at h; cases h
       have hsn : slN c i' = slN c i := by
         unfold slN
         rw [hs]
       have hsr : srM c i' = srM c i := by unfold srM; rw [hs]
       (cbv; try simp only [syT, true_and, and_true])
       subst hL
       refine ⟨fun _ _ _ _ => trivial, ⟨hsn.symm, fun q j hq hj => ?_⟩, fun _ _ _ _ => trivial, hsn.symm, ?_, ?_, ?_⟩
       · show izC std (zak (srM c i) q) j = izC std (zak (srM c i') q) j
         rw [hsr]
       · show zfi .i64 (za7 i) 1 = za7 i'
         rw [hi', zd0 hil (by omega)]
       · show i' <= c.y.rs.length
         omega
       · show c.y.rs.length - i' < c.y.rs.length - i
         omega
     · rw [hL]
       obtain ⟨h1, h2, _⟩ := zk8 (c := mcB c) hmc (i := i) hil
       exact ⟨h1, h2⟩
     · (cbv; try simp only [syT, true_and, and_true])
       subst hL
       refine ⟨fun _ _ _ _ => trivial, fun _ _ _ _ => trivial, fun _ _ _ _ => trivial, ?_, ?_, fun q h1 h2 => ?_⟩
       · show za7 (slN c i) = za7 n0
         rw [hn0]
       · show n0 <= slN c i
         rw [hn0]; exact Nat.le_refl _
       · exfalso; omega
     · have kmt : mtB (mbQ (mcB c) i) = true := by
         have h := hm
         rw [hL, hqq] at h
         have h : (!mtB (mbQ (mcB c) i)) = false := h
         simpa using h
       obtain ⟨hj1, hj2⟩ : raJ c i j := by
         have h := hj
         rw [hL] at h
         exact h
       clear hj
       obtain ⟨j', hj'⟩ : ∃ j', j' = j - 1 := ⟨_, rfl⟩
       have hs : slM c i' = slM c i ++ [(i : Int)] := by
         unfold slM
         rw [hi', zk2, if_pos kmt]
       have hsn : slN c i' = slN c i + 1 := by
         unfold slN
         rw [hs, List.length_append]; rfl
       have hsr : srM c i' = zqe (ltM (mcB c)) (srM c i) (i : Int) := by
         unfold srM
         rw [hs, zl3]
       have hwj : 0 < j -> L (L (zj7 .i64) (L za7 j)) 1 = L za7 j' := fun h => by
         rw [hL, hj']
         exact yeb h hj1 (by omega)
       have hna : L (L Nat.add 0) j' = j' := by rw [hL]; exact zmx _
       have hel : ∀ q, q < slN c i -> zak (srM c i) q ∈ slM c i := fun q hq => by
         rw [show zak (srM c i) q = (srM c i)[q]'(by omega) from zas _]
         have := List.getElem_mem (l := srM c i) (n := q) (by omega)
         exact (zki _).1 this
       have hrk : ∀ x ∈ slM c i, mcE c x /\ rk1 (mbQ (mcB c) x.toNat) = rkA (zao c.y.rs x.toNat).h /\ rk2 (mbQ (mcB c) x.toNat) = rkB (zao c.y.rs x.toNat).p := fun x hx => by
         obtain ⟨h1, h2, h3⟩ := (zoq (mcB c)).1 hx
         obtain ⟨_, _, h4, h5⟩ := zle h3
         exact ⟨⟨h1, by omega⟩, h4, h5⟩
       obtain ⟨_, _, hk1, hk2⟩ := zle kmt
       have hk1 : rk1 (mbQ (mcB c) i) = rkA (zao c.y.rs i).h := hk1
       have hk2 : rk2 (mbQ (mcB c) i) = rkB (zao c.y.rs i).p := hk2
       have hltx : ∀ q, q < slN c i -> ltM (mcB c) (i : Int) (zak (srM c i) q) = zft (rkA (zao c.y.rs i).h) (rkB (zao c.y.rs i).p) (rkA (zao c.y.rs (zak (srM c i) q).toNat).h) (rkB (zao c.y.rs (zak (srM c i) q).toNat).p) := fun q hq => by
         obtain ⟨_, h4, h5⟩ := hrk _ (hel q hq)
         unfold ltM
         rw [h4, h5, Int.toNat_natCast, hk1, hk2]
       (cbv; try simp only [syT, true_and, and_true])
       simp only [hto]
       refine ⟨fun hgt => ?in1, fun hle => ?ex3⟩
       case' in1 =>
         have hj0 : 0 < j := by
           rw [hL] at hgt
           have h : ilt 0 (za7 j) = true := hgt
           rw [zcp, za1] at h; omega
         simp only [hwj hj0, hto, hna]
         have hjl : j' < slN c i := by omega
         refine ⟨?a1, ?a2, ?a3, fun e1 => ?ex1, fun e1 => ⟨fun e2 => ⟨fun e3 => ?ex2, fun e3 => ⟨j', ?s1⟩⟩, fun e2 => ⟨j', ?s2⟩⟩⟩
       case a1 =>
         rw [hL]; exact zf9 (n := slN c i) (by omega)
       case a2 =>
         rw [hL]
         obtain ⟨h1, h2⟩ := (hrk _ (hel j' hjl)).1
         show inR (zak (srM c i) j') (za7 c.y.rs.length) = true
         rw [zn1, za1]; exact ⟨h1, h2⟩
       case a3 =>
         rw [hL]
         obtain ⟨h1, h2⟩ := (hrk _ (hel j' hjl)).1
         obtain ⟨h3, h4, _⟩ := zk8 (c := mcB c) hmc (i := (zak (srM c i) j').toNat) (by show _ < c.y.rs.length; omega)
         exact ⟨h3, h4⟩
       case s1 =>
         have f1 : ¬ rkA (zao c.y.rs i).h < rkA (zao c.y.rs (zak (srM c i) j').toNat).h := by
           rw [hL] at e1
           have h : ilt (rkA (zao c.y.rs i).h) (rkA (zao c.y.rs (zak (srM c i) j').toNat).h) = false := e1
           rw [zeh] at h; omega
         have f2 : rkA (zao c.y.rs (zak (srM c i) j').toNat).h = rkA (zao c.y.rs i).h := by
           rw [hL] at e2
           have h : ieq (rkA (zao c.y.rs (zak (srM c i) j').toNat).h) (rkA (zao c.y.rs i).h) = true := e2
           rw [zn2] at h; exact h
         have f3 : rkB (zao c.y.rs (zak (srM c i) j').toNat).p < rkB (zao c.y.rs i).p := by
           rw [hL] at e3
           have h : ile (rkB (zao c.y.rs i).p) (rkB (zao c.y.rs (zak (srM c i) j').toNat).p) = false := e3
           rw [yjx] at h; omega
         (cbv; try simp only [syT, true_and, and_true])
         subst hL
         refine ⟨fun _ _ _ _ => trivial, fun _ _ _ _ => trivial, fun _ _ _ _ => trivial, ⟨by omega, fun q h1 h2 => ?_⟩, ?_⟩
         · by_cases hq : q = j'
           · subst hq
             rw [hltx _ h2]
             exact zhq.2 (.inr ⟨f2.symm, f3⟩)
           · exact hj2 q (by omega) h2
         · show j' < j
           omega
       case s2 =>
         have f1 : ¬ rkA (zao c.y.rs i).h < rkA (zao c.y.rs (zak (srM c i) j').toNat).h := by
           rw [hL] at e1
           have h : ilt (rkA (zao c.y.rs i).h) (rkA (zao c.y.rs (zak (srM c i) j').toNat).h) = false := e1
           rw [zeh] at h; omega
         have f2 : rkA (zao c.y.rs (zak (srM c i) j').toNat).h ≠ rkA (zao c.y.rs i).h := by
           rw [hL] at e2
           have h : ieq (rkA (zao c.y.rs (zak (srM c i) j').toNat).h) (rkA (zao c.y.rs i).h) = false := e2
           rw [zzf] at h; exact h
         (cbv; try simp only [syT, true_and, and_true])
         subst hL
         refine ⟨fun _ _ _ _ => trivial, fun _ _ _ _ => trivial, fun _ _ _ _ => trivial, ⟨by omega, fun q h1 h2 => ?_⟩, ?_⟩
         · by_cases hq : q = j'
           · subst hq
             rw [hltx _ h2]
             exact zhq.2 (.inl (by omega))
           · exact hj2 q (by omega) h2
         · show j' < j
           omega
       case' ex1 =>
         have hK : j = 0 \/ ltM (mcB c) (i : Int) (zak (srM c i) (j - 1)) = false := .inr (by
           rw [<- hj', hltx _ hjl]
           refine zgm.2 (.inl ?_)
           rw [hL] at e1
           have h : ilt (rkA (zao c.y.rs i).h) (rkA (zao c.y.rs (zak (srM c i) j').toNat).h) = true := e1
           rw [zcp] at h; exact h)
       case' ex2 =>
         have hK : j = 0 \/ ltM (mcB c) (i : Int) (zak (srM c i) (j - 1)) = false := .inr (by
           rw [<- hj', hltx _ hjl]
           refine zgm.2 (.inr ?_)
           rw [hL] at e2 e3
           have h : ieq (rkA (zao c.y.rs (zak (srM c i) j').toNat).h) (rkA (zao c.y.rs i).h) = true := e2
           have h3 : ile (rkB (zao c.y.rs i).p) (rkB (zao c.y.rs (zak (srM c i) j').toNat).p) = true := e3
           rw [zn2] at h
           rw [yem] at h3
           exact ⟨h.symm, h3⟩)
       case' ex3 =>
         have hK : j = 0 \/ ltM (mcB c) (i : Int) (zak (srM c i) (j - 1)) = false := .inl (by
           rw [hL] at hle
           have h : ilt 0 (za7 j) = false := hle
           rw [zeh, za1] at h; omega)
       all_goals
         have hput : zqf (ltM (mcB c)) (i : Int) (srM c i) (srM c i).length = j := by
           refine zta _ (by omega) (Nat.le_refl _) (fun q y a b e => ?_) (fun y hy h0 => ?_)
           · have := hj2 q a (by omega)
             rw [show zak (srM c i) q = (srM c i)[q]'(by omega) from zas _] at this
             rw [List.getElem?_eq_getElem (by omega)] at e
             cases e
             exact this
           · rcases hK with h | h
             · omega
             · rw [show zak (srM c i) (j - 1) = (srM c i)[j - 1]'(by omega) from zas _] at h
               rw [List.getElem?_eq_getElem (by omega)] at hy
               cases hy
               exact h
         have hrow : srM c i' = (srM c i).take j ++ (i : Int) :: (srM c i).drop j := by
           rw [hsr]; unfold zqe; rw [hput]
         refine ⟨?_, ?_, ?_, ?_, ?_, i', ?_⟩
         · rw [hL]; show inC (za7 j) (za7 (slN c i)) = true
           rw [yjw, za1, za1]; omega
         · rw [hL]; show zc0 8 0 j = true
           rw [zdt]; omega
         · rw [hL]; show zc0 8 j 1 = true
           rw [zdt]; omega
         · rw [hL]; show inC (za7 j) (za7 (slN c i)) = true
           rw [yjw, za1, za1]; omega
         · rw [hL]; show zc0 8 (j + 1) (slN c i - j) = true
           rw [zdt]; omega
         · (cbv; try simp only [syT, true_and, and_true])
           subst hL
           have hle2 : slN c i <= c.y.rs.length := by omega
           refine ⟨fun _ _ _ _ => trivial, ⟨?_, fun q jj hq hj3 => ?_⟩, fun _ _ _ _ => trivial, ?_, ?_, ?_, ?_⟩
           · show j + 1 + (slN c i - j) = slN c i'
             omega
           · have hq : q < slN c i + 1 := by rw [<- hsn]; exact hq
             show zhc std (zbk q (j + 1)) (zhc std (zbk q j) (izC std (zak (srM c i) (Nat.add 0 q)) jj) (.int .i64 (zkd [za7 i] (Nat.add 0 (q - j))))) (izC std (zak (srM c i) (Nat.add (Nat.add 0 j) (q - (j + 1)))) jj) = izC std (zak (srM c i') q) jj
             rw [zmx, zmx, zmx, hrow, yo6 (by omega)]
             by_cases h1 : q < j
             · rw [zhw h1, zhw (show q < j + 1 by omega), if_pos h1]; rfl
             · by_cases h2 : q = j
               · subst h2
                 rw [zhw (show q < q + 1 by omega), zjy (Nat.lt_irrefl q), if_neg (Nat.lt_irrefl q), if_pos rfl, Nat.sub_self]; rfl
               · rw [zjy h1, zjy (show ¬ q < j + 1 by omega), if_neg h1, if_neg h2]
                 show izC std (zak (srM c i) (j + (q - (j + 1)))) jj = _
                 rw [show j + (q - (j + 1)) = q - 1 by omega]
           · show j + 1 + (slN c i - j) = slN c i'
             omega
           · show zfi .i64 (za7 i) 1 = za7 i'
             rw [hi', zd0 hil (by omega)]
           · show i' <= c.y.rs.length
             omega
           · show c.y.rs.length - i' < c.y.rs.length - i
             omega
   · subst hL; subst hQ
     have h2 : ilt (za7 i) (za7 c.y.rs.length) = false := hge
     rw [zeh, za1, za1] at h2
     have hie : i = c.y.rs.length := by omega
     subst hie
     rw [zeq]
     refine ⟨rfl, fun q j hq hj => ?_⟩
     show izC std (zak (srM c c.y.rs.length) (Nat.add 0 q)) j = izC std (zak (alZ c) q) j
     rw [zmx]; rfl
noncomputable def ycx (L : zab) : zbb := (15, fun xs => match xs with
 | [x, .str host, .str path] => some (L zii x /\ L yvz (yh5 L (L zcg x) host path), .lst 1 (L slE (yh5 L (L zcg x) host path)) (fun q => izC L (L (L zak (L alZ (yh5 L (L zcg x) host path))) q)))
 | _ => none)
theorem ycy : zay Tryz.prog (ycx std) := by
 intro xs p r h hp
 dsimp only [ycx] at h |-
 split at h <;> cases h
 try simp only [L2, L3, std] at hp |-
 rename_i x host path
 obtain ⟨ho, hok⟩ := hp
 refine zsn zct ho ?_
 exact yo5 (c := yh5 std (zcg x) host path) hok
end Sy
end Go.Proofs.YtogpolfhcbgcbaaGreatDoor
namespace Go.Proofs.YtogpolfhcbgcbaaGreatDoor
namespace Sy
open Go Go.RowKit
set_option maxRecDepth 100000
set_option maxHeartbeats 4000000
set_option linter.unusedSimpArgs false
set_option linter.unusedVariables false
def mrI (c : Mc) (i : Nat) : Prop := i <= c.y.rs.length
def mrMu (c : Mc) (i : Nat) : Nat := c.y.rs.length - i
noncomputable def mrA (L : zab) (c : Mc) : Nat -> St -> Option Ann := fun id st => match id with
 | 0 => some ⟨Nat, fun i => [(49, .int .i64 (L za7 i))], fun i => [], [1, 2, 3, 8, 9, 10, 47, 48], [3], fun i => L2 L mrI c i, fun i => L2 L mrMu c i⟩
 | _ => none
theorem zz1 (y : Ls) (hy : yhd y) (host path : List UInt8) (hh : yrr host) (hp : yrr path) : zad Tryz.prog 4 [.agg ((List.range 7).map (lsC std y)), .str host, .str path] (.bool true) := by
 refine za8 (T := tt) (S := fun L => zam [tru 6, yph L, ywm L, ycx L, yl5 L, yid L, ycm L, yia L, ydq L, yqm L, yrg L, ys1 19 ydi zt5 yko L]) (lo := fun L => mrA L (yh5 L y host path)) (lb := noA) 5 (fn := Tryz.f4) (xs := fun L => [.agg [lsC L y 0, lsC L y 1, lsC L y 2, lsC L y 3, lsC L y 4, lsC L y 5, lsC L y 6], .str host, .str path]) rfl rfl (by kernel_rfl) (by kernel_rfl) rfl zac (za2 ⟨zbz ya3, yk3, yn6, ycy, zxh, zvf, zou, zvc, zpa, yky, ylc, zzt, trivial⟩) (by kernel_rfl) ?_
 intro L P' Q' hL hP hQ
 have hG : L zcg (.agg [.str (L Ls.n y), .int .u8 (L Pl.a (L Ls.pl y)), .int .u8 (L Pl.b (L Ls.pl y)), .int .u8 (L Pl.c (L Ls.pl y)), .int .u8 (L Pl.d (L Ls.pl y)), .int .u16 (L Pl.p (L Ls.pl y)), .lst 4 (L zbl (L Ls.rs y)) (fun i => rtC L (L (L zao (L Ls.rs y)) i))]) = y := by subst hL; exact (gK zct y _ rfl).2
 have hO : L zii (.agg [.str (L Ls.n y), .int .u8 (L Pl.a (L Ls.pl y)), .int .u8 (L Pl.b (L Ls.pl y)), .int .u8 (L Pl.c (L Ls.pl y)), .int .u8 (L Pl.d (L Ls.pl y)), .int .u16 (L Pl.p (L Ls.pl y)), .lst 4 (L zbl (L Ls.rs y)) (fun i => rtC L (L (L zao (L Ls.rs y)) i))]) := by subst hL; exact (gK zct y _ rfl).1
 obtain ⟨X, hXe⟩ : ∃ X, X = AV.agg [.int .u64 0, .lst 7 1 (fun i j => zbn .dead [.str (L Ls.n y), .int .u8 (L Pl.a (L Ls.pl y)), .int .u8 (L Pl.b (L Ls.pl y)), .int .u8 (L Pl.c (L Ls.pl y)), .int .u8 (L Pl.d (L Ls.pl y)), .int .u16 (L Pl.p (L Ls.pl y)), .lst 4 (L zbl (L Ls.rs y)) (fun i => rtC L (L (L zao (L Ls.rs y)) i))] (L2 L Nat.add 0 i * 7 + j)), .nils] := ⟨_, rfl⟩
 have hX : L zp6 X /\ L zfm X = ⟨0, [y], []⟩ := by
   subst hL
   rw [hXe]
   have h1 := zox zct (n := 1) (l := [y]) (get := fun i j => zbn .dead [.str (std Ls.n y), .int .u8 (std Pl.a (std Ls.pl y)), .int .u8 (std Pl.b (std Ls.pl y)), .int .u8 (std Pl.c (std Ls.pl y)), .int .u8 (std Pl.d (std Ls.pl y)), .int .u16 (std Pl.p (std Ls.pl y)), .lst 4 (std zbl (std Ls.rs y)) (fun i => rtC std (std (std zao (std Ls.rs y)) i))] (L2 std Nat.add 0 i * 7 + j)) rfl (fun q j hq hj => by
     obtain rfl : q = 0 := by omega
     match j, hj with
     | 0, _ => rfl
     | 1, _ => rfl
     | 2, _ => rfl
     | 3, _ => rfl
     | 4, _ => rfl
     | 5, _ => rfl
     | 6, _ => rfl)
   refine ⟨⟨rfl, ⟨_, rfl⟩, h1.1, trivial⟩, ?_⟩
   exact congrArg (fun l => Cf.mk 0 l []) h1.2
 have hN : L (L zc8 (L Cf.ls ⟨0, [y], []⟩)) (L Int.toNat 0) = y := by rw [hL]; rfl
 (cbv; try simp only [syT, true_and, and_true])
 rw [<- hXe]
 simp only [hG, hO, hX.1, hX.2, hN, true_and]
 obtain ⟨c, hc⟩ : ∃ c, yh5 L y host path = c := ⟨_, rfl⟩
 have hcc : c = ⟨y, host, path⟩ := by rw [<- hc, hL]; rfl
 simp only [hc]
 obtain ⟨cB, hcB⟩ : ∃ c, ym5 L y host path = c := ⟨_, rfl⟩
 have hcBB : cB = mcB c := by rw [<- hcB, hcc, hL]; rfl
 simp only [hcB]
 have k1 : (L not (L (L zzn y) host) = false) -> zzn y host = true := fun h => by
   rw [hL] at h
   have h : (!zzn y host) = false := h
   simpa using h
 have k2 : (L (L ilt 300) (L slen path) = false) -> path.length <= 300 := fun h => by
   rw [hL] at h
   have h : ilt 300 (slen path) = false := h
   rw [zeh, zgb] at h
   omega
 have fT : Q' (.bool true) := by rw [hQ]; exact ftt
 refine ⟨fun h => absurd h (by rw [hL]; decide), fun _ => ⟨by rw [hL]; exact yud hy hh, fun _ => fT, fun c1 => ⟨fun _ => fT, fun c2 => ?_⟩⟩⟩
 have c1 := k1 c1
 have c2 := k2 c2
 clear k1 k2
 obtain ⟨hmb, hl20, hne⟩ := yue c1 (show path.length <= 300 by omega)
 have hra : yvz c := by rw [hcc]; exact ⟨⟨hmb, hl20⟩, c1⟩
 have hmc : zz5 c := hra.1.1
 have hl : c.y.rs.length <= 20 := hra.1.2
 have h20 : slE c <= 20 := by rw [hcc]; exact Nat.le_trans (zi7 _ _) hl20
 have hr : L ydi (.lst 1 (L slE c) fun q => izC L (L (L zak (L alZ c)) q)) /\ L zt5 (.lst 1 (L slE c) fun q => izC L (L (L zak (L alZ c)) q)) = alZ c := by
   rw [hL]
   exact zox znw (n := slE c) (l := alZ c) (zq9 c).symm (fun _ _ _ _ => rfl)
 refine ⟨?_, ?_, ?_, ?_, ⟨0, ?_⟩, fun i hi => ?_⟩
 · rw [hL]
   refine ⟨Nat.le_of_ble_eq_true rfl, Nat.le_of_ble_eq_true rfl, fun l hm => ?_, fun l hm => absurd hm (by simp)⟩
   have : l = y := by simpa using hm
   rw [this]
   show y.rs.length <= 1000000
   omega
 · rw [hL]; rfl
 · rw [hL]; exact hra
 · rw [hL, hcBB]; exact hmc
 · (cbv; try simp only [syT, true_and, and_true])
   subst hL
   repeat' first | exact trivial | exact rfl | exact fun _ _ _ _ => trivial | exact Nat.zero_le _ | apply And.intro
 · have hyr : c.y = y := by rw [hcc]
   have hi2 : i <= y.rs.length := by
     have h := hi
     rw [hL] at h
     exact h
   rw [hyr] at hl
   clear hi
   obtain ⟨i', hi'⟩ : ∃ i', i' = i + 1 := ⟨_, rfl⟩
   have hto : ∀ k : Nat, L Int.toNat (L za7 k) = k := fun k => by rw [hL]; rfl
   (cbv; try simp only [syT, true_and, and_true])
   simp only [hto, hc, hr.1, hr.2, true_and]
   obtain ⟨q, hq⟩ : ∃ q, zil L (L Rt.h (L (L zao (L Ls.rs y)) i)) (L Rt.p (L (L zao (L Ls.rs y)) i)) host path = q := ⟨_, rfl⟩
   have hqq : q = mbQ (mcB c) i := by rw [<- hq, hL, hcc]; rfl
   simp only [hq]
   have fe : ∀ n : Int, inM n -> fEq .f64 (fOf n) (fOf n) = true := fun n h0 => by
     obtain ⟨n, rfl, hn⟩ := zeg h0
     have k : ∀ n : Nat, n <= 2 ^ 40 -> n < 2 ^ 53 := fun n h => Nat.lt_of_le_of_lt h (by decide)
     have hn : n < 2 ^ 53 := k _ hn
     rw [yfb hn hn, decide_eq_true rfl]
   have hnt : L not true = false := by rw [hL]; rfl
   have hnf : L not false = true := by rw [hL]; rfl
   have hle : L zg3 (alZ c) := by rw [hL]; show (alZ c).length <= 1000000; rw [zq9]; omega
   have hz : ∀ x : Int, (¬ (decide (x = 0) = false)) -> x = 0 := fun x h => by simpa using h
   obtain ⟨m, hm⟩ : ∃ m, mtB q = m := ⟨_, rfl⟩
   have hmL : L mtB q = m := by rw [hL]; exact hm
   have hbq : L (L ywc m) m = true := by rw [hL]; exact beq_self_eq_true m
   have hctm : i < y.rs.length -> L (L ymr (alZ c)) (L za7 i) = m := fun hil => by
     rw [hL]
     show ymr (alZ c) (za7 i) = m
     unfold ymr
     rw [<- hm, hqq, Bool.eq_iff_iff, decide_eq_true_eq]
     show (i : Int) ∈ yhb (mcB c) ↔ _
     rw [yrh, Int.toNat_natCast]
     have : (mcB c).rs.length = y.rs.length := by rw [hcc]; rfl
     constructor
     · rintro ⟨_, _, h⟩; exact h
     · intro h; exact ⟨by omega, by omega, h⟩
   refine ⟨fun hlt => ?_, fun hge => ?_⟩
   · have hil : i < y.rs.length := by
       have h := hlt
       rw [hL] at h
       have h2 : ilt (za7 i) (za7 y.rs.length) = true := h
       rw [zcp, za1, za1] at h2; omega
     have hilc : i < c.y.rs.length := by rw [hyr]; exact hil
     have hrm := yt3 hra hilc
     have hmq : zmy q := by rw [hqq]; exact hrm.1
     obtain ⟨ra1, ra2⟩ := zt0 hmq
     simp only [hmL, hctm hil, hbq, hnt, hle, true_and, true_imp_iff, false_imp_iff, reduceCtorEq]
     refine ⟨?_, ?_, ?_, ?_, ?_, ?_⟩
     · rw [hL]; exact zf9 (n := y.rs.length) hil
     · rw [hL, hqq]; exact hrm
     · rw [hL]; exact hmq
     · rw [hL]
       obtain ⟨h1, h2, _⟩ := hmq
       rw [hqq, hcc] at h1 h2
       exact ⟨h1, h2⟩
     · rw [hL]; exact hmq
     cases m with
     | true =>
       obtain ⟨_, _, e1, e2⟩ := zle hm
       have e1 : rk1 q = rkA (zao y.rs i).h := by rw [e1, hqq, hcc]; rfl
       have e2 : rk2 q = rkB (zao y.rs i).p := by rw [e2, hqq, hcc]; rfl
       have eA : L not (L2 L and (L2 L (fEq FloatKind.f64) (L fOf (L rk1 q)) (L FloatKind.f64.nearest (L rkA (L Rt.h (L (L zao (L Ls.rs y)) i))))) (L2 L (fEq FloatKind.f64) (L fOf (L rk2 q)) (L FloatKind.f64.nearest (L rkB (L Rt.p (L (L zao (L Ls.rs y)) i)))))) = false := by
         rw [hL]
         show (!(fEq .f64 (fOf (rk1 q)) (fOf (rkA (zao y.rs i).h)) && fEq .f64 (fOf (rk2 q)) (fOf (rkB (zao y.rs i).p)))) = false
         rw [<- e1, <- e2, fe _ ra1, fe _ ra2]; rfl
       simp only [eA, hnt, true_and, true_imp_iff, false_imp_iff, and_true, reduceCtorEq]
       refine ⟨i', ?_⟩
       (cbv; try simp only [syT, true_and, and_true])
       subst hL
       refine ⟨fun _ _ _ _ => trivial, fun _ _ _ _ => trivial, fun _ _ _ _ => trivial, ?_, ?_, ?_⟩
       · show zfi .i64 (za7 i) 1 = za7 i'
         rw [hi', zd0 hil (by omega)]
       · show i' <= y.rs.length
         omega
       · show y.rs.length - i' < y.rs.length - i
         omega
     | false =>
       obtain ⟨e1, e2⟩ := zyj hm
       have eB : L not (L2 L and (L2 L (fEq FloatKind.f64) (L fOf (L rk1 q)) 0) (L2 L (fEq FloatKind.f64) (L fOf (L rk2 q)) 0)) = false := by
         rw [hL]
         show (!(fEq .f64 (fOf (rk1 q)) 0 && fEq .f64 (fOf (rk2 q)) 0)) = false
         rw [e1, e2]; decide
       simp only [eB, hnf, true_and, true_imp_iff, false_imp_iff, and_true, reduceCtorEq]
       refine ⟨i', ?_⟩
       (cbv; try simp only [syT, true_and, and_true])
       subst hL
       refine ⟨fun _ _ _ _ => trivial, fun _ _ _ _ => trivial, fun _ _ _ _ => trivial, ?_, ?_, ?_⟩
       · show zfi .i64 (za7 i) 1 = za7 i'
         rw [hi', zd0 hil (by omega)]
       · show i' <= y.rs.length
         omega
       · show y.rs.length - i' < y.rs.length - i
         omega
   · have m20 : L yxi c := by rw [hL]; exact hra.1
     obtain ⟨a1, a2, a3⟩ := ygr cB
     have ea : yhb cB = alZ c := by rw [hcBB]; rfl
     rw [ea] at a1 a2
     have heq : L (L yko (alZ c)) (alZ c) = true := by rw [hL]; exact decide_eq_true rfl
     have h0 : L (L ilt 0) (L za7 (L slE c)) = bsS cB := by
       rw [hL, a1]
       show decide ((0 : Int) < za7 (slE c)) = decide (0 < (alZ c).length)
       rw [zq9, Bool.eq_iff_iff, decide_eq_true_eq, decide_eq_true_eq, za1]; omega
     obtain ⟨b, hb⟩ : ∃ b, bsS cB = b := ⟨_, rfl⟩
     have hbL : L bsS cB = b := by rw [hL]; exact hb
     have hbb : L (L ywc b) b = true := by rw [hL]; exact beq_self_eq_true b
     simp only [hG, hO, hc, hr.1, hr.2, m20, heq, h0, hb, hbL, hbb, hle, true_and, true_imp_iff, false_imp_iff, and_true, reduceCtorEq]
     cases b with
     | true =>
       have hlen : 0 < slE c := by
         rw [hb, zq9] at a1
         exact of_decide_eq_true a1.symm
       have hi0 : L (L ieq (L bsB cB)) (L (L zak (L alZ c)) (L Int.toNat 0)) = true := by
         rw [hL]
         show ieq (bsB cB) (zak (alZ c) 0) = true
         rw [zn2, zwo, List.getD_eq_getElem?_getD, a2 hb]; rfl
       simp only [hi0, true_and, true_imp_iff, false_imp_iff, and_true, reduceCtorEq]
       exact ⟨by rw [hL]; exact zf9 (i := 0) hlen, fT⟩
     | false =>
       have hz0 : L (L ieq (L bsB cB)) 0 = true := by
         rw [hL]
         show ieq (bsB cB) 0 = true
         rw [zn2, a3 hb]
       simp only [hz0, hnf, true_and, true_imp_iff, false_imp_iff, and_true, reduceCtorEq]
       exact fT
theorem law_MatchRoutes (y : Ls) (hy : yhd y) (host : List UInt8) (hh : yrr host) (path : List UInt8) (hp : yrr path) : zad Tryz.prog 4 [.agg ((List.range 7).map (lsC std y)), .str host, .str path] (.bool true) := zz1 y hy host path hh hp
end Sy
end Go.Proofs.YtogpolfhcbgcbaaGreatDoor
namespace Go.Proofs.YtogpolfhcbgcbaaGreatDoor
namespace Sy
open Go
set_option linter.unusedVariables false
theorem ztv {P : Program} {w : World} {n : String} {d : DataW Unit} : ∀ {l : List (String × DataW Unit)} {ps : List MemPlace}, DataW.LaidVars P w l ps -> (n, d) ∈ l ->
   ∃ g t cs fuel p, P.globalNamed n = some g /\ (P.globals[g]?).map (·.type) = some t /\ w.var? P n = some cs /\ DataW.trod (fun _ => ()) P w 0 (fun _ => true) false fuel t cs.toList = some (d, p)
 | x :: r, ps, h, hm => by
   obtain ⟨n', d'⟩ := x
   obtain ⟨g, t, cs, fuel, p, q, h1, h2, h3, h4, h5, _⟩ := h
   rcases List.mem_cons.1 hm with e | hm
   · cases e
     exact ⟨g, t, cs, fuel, p, h1, h2, h3, h4⟩
   · exact ztv h5 hm
theorem laid_tab {P : Program} {w : World} {name : String} {k : IntKind} {zs : List Int} {l : List (String × DataW Unit)} (h : laidMet P l w) (hm : (name, Lib.tabData k zs) ∈ l) {g : Nat} {t e : TypeId} {n : Nat}
   (hg : P.globalNamed name = some g) (hty : (P.globals[g]?).map (·.type) = some t) (ht : P.underlying t = some (.array n e)) (he : P.underlying e = some (.int k)) (hce : P.cellsOf e = 1) (hct : P.cellsOf t = n) : Lib.TabIs P w name k zs := by
 obtain ⟨ps, hv, _⟩ := h
 obtain ⟨g', t', cs, fuel, p, hg', ht', hvar, hd⟩ := ztv hv hm
 obtain rfl := Option.some.inj (hg.symm.trans hg')
 obtain rfl := Option.some.inj (hty.symm.trans ht')
 unfold Lib.TabIs
 rw [hvar, <- Lib.cells_of_tab ht he hce hct hd]
theorem laid_ifc {P : Program} {w : World} {name nm : String} {d : DataW Unit} {l : List (String × DataW Unit)} (h : laidMet P l w) (hm : (name, .iface nm d) ∈ l) {g : Nat} {t : TypeId} {ms : Array (String × TypeId)}
   (hg : P.globalNamed name = some g) (hty : (P.globals[g]?).map (·.type) = some t) (ht : P.underlying t = some (.interface ms)) : ∃ te pe, w.var? P name = some #[.iface te pe] := by
 obtain ⟨ps, hv, _⟩ := h
 obtain ⟨g', t', cs, fuel, p, hg', ht', hvar, hd⟩ := ztv hv hm
 obtain rfl := Option.some.inj (hg.symm.trans hg')
 obtain rfl := Option.some.inj (hty.symm.trans ht')
 obtain ⟨f2, u, v, e, _, _⟩ := iface_of_trod ht hd
 refine ⟨u, v, ?_⟩
 rw [hvar]
 obtain ⟨l0⟩ := cs
 have e : l0 = [.iface u v] := e
 rw [e]
theorem max_is {w : World} (h : w.ShapedOpen Tryz.prog) (hm : ∀ g, Tryz.prog.globalNamed "internal/bytealg.MaxLen" = some g -> ∃ zero t, g < Tryz.prog.globals.size /\ ((begin Tryz.prog (fun _ _ => 0) default).world.heap[g]?).bind Obj.row? = some (zero, t) /\ zero.size = 1 /\ Tryz.prog.buildable t = true /\ Tryz.prog.cellTypes Tryz.prog.depth t = some [t] /\ Tryz.prog.underlying t = some (.int .i64)) : ygy w := by
 intro g hg
 obtain ⟨zero, t, h1, h2, h3, h4, h5, h6⟩ := hm g hg
 exact Go.Proofs.cell_of_shapedOpen_int h h1 h2 h3 h4 h5 h6
theorem returns_and_shaped {H : Type} {enc : TypeId × Value -> H} {a : Assume} {C : Checked} {os : Os} {f : FuncId} {fn : Func} {s : ChangeSpec} {conds : List PathCond} {apart fresh handsOn again : Bool} {X : World -> Array Value -> Prop}
   (hX : ∀ (w w' : World) (args : Array Value), w.heap = w'.heap -> X w args -> X w' args)
   (own : ownKnob C.prog.godebug = none) (started : os.Started) (noInit : C.prog.inits.idxOf? f = none) (hfn : C.prog.funcs[f]? = some fn)
   (witness : ∃ (w : World) (tape : Tape) (i : Input), w.os = os /\ (w.forCall tape i).Shaped C.prog /\ i.vars = [] /\ Input.okWide C.prog (w.forCall tape i) .any w.heap.size f i /\
     ((s.pre enc C.prog fn conds apart (w.forCall tape i).memory i.args /\ X (w.forCall tape i).memory i.args) /\ sizedMet enc C.prog fn (OpenSpec.ofChange s) apart (w.forCall tape i).memory i.args) /\ a.holds C.prog (lone (Frame.enter C.prog f i.args .normal) [] (w.forCall tape i)))
   (contract : ∀ (W : World) (base : Nat) (args : Array Value) (ds gs : List (DataW H)) (before : List MemPlace),
     (∀ (j : Nat) t v, fn.params[j]? = some t -> args[j]? = some v -> Value.okWide C.prog W .any base t v) ->
     DataW.Whole enc C.prog fn.params.toList s.vars apart W args.toList ds gs before ->
     conds.all (PathCond.test C.prog ⟨fn.params.toList, ds, s.plain.varTypes C.prog, gs⟩) = true ->
     (DataW.weightsEach C.prog (fn.params.toList ++ s.plain.varTypes C.prog) (ds ++ gs)).all (· <= reachBytes) = true -> X W args -> W.ShapedOpen C.prog ->
     a.holds C.prog (lone (Frame.enter C.prog f args .normal) [] W) ->
     Calls C.prog f args W fun e W' => ∃ v, e = .returned v /\ s.post enc C.prog fn apart fresh handsOn again W args v W') :
   ReturnsInHanded a C os f .any (fun w args => (s.pre enc C.prog fn conds apart w args /\ X w args) /\ sizedMet enc C.prog fn (OpenSpec.ofChange s) apart w args) (s.post enc C.prog fn apart fresh handsOn again) := by
 refine returnsInHanded_of_calls own started noInit witness ?_
 intro w tape i _ hsh _ hok hpre hholds
 obtain ⟨_, _, _, fn', hfn', _, _, _, _, hval⟩ := hok
 have e : fn' = fn := Option.some.inj (hfn'.symm.trans hfn)
 subst e
 obtain ⟨⟨⟨ds, gs, before, hw, hc⟩, hx⟩, hz⟩ := hpre
 have hw' := DataW.Whole.of_heap (w' := w.forCall tape i) (by rfl) hw
 refine (contract (w.forCall tape i) w.heap.size i.args ds gs before hval hw' hc (hz.weights hw) (hX _ _ _ (by rfl) hx) hsh hholds).mono fun e W' ⟨v, he, hp⟩ => ?_
 subst he
 exact ChangeSpec.post_blind hp
end Sy
end Go.Proofs.YtogpolfhcbgcbaaGreatDoor
