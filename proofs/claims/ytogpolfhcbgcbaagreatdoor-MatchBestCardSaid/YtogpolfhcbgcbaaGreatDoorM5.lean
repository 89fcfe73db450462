/-Chapter 21 (match): a label's parts: IndexFunc, DeleteFunc of zr9. Chapter 21 (match): a label's parts: DeleteFunc of zr9, label.Parts. Chapter 21 (match): Split with a row of its own; label.Parts; and what stands between these and the texts behind.-/
import Derived.Test.YtogpolfhcbgcbaaGreatDoorM4
import Derived.Test.YtogpolfhcbgcbaaGreatDoorM1
import Derived.ProofKit
import Derived.OpenShut
import Derived.LaidMore
import Derived.Lay
import Derived.Stop.Joined
import Derived.Lib.LaidTab
import Derived.Handed
import Derived.Shelf.Vars
namespace Go.Proofs.YtogpolfhcbgcbaaGreatDoor
namespace Sy
open Go Go.RowKit
set_option maxRecDepth 100000
set_option linter.unusedSimpArgs false
set_option linter.unusedVariables false
abbrev Lbx := List UInt8
def sxC (L : za7) (x : List UInt8) (j : Nat) : AV := .str x
def sxV : Vw Lbx := ⟨1, sxC, fun c => zu0 (c 0), fun c => ∃ s, c 0 = .str s, []⟩
theorem zjw : ztj sxV := by
 refine ⟨fun c hc j hj h D μ v r => ?_, fun c x hx => ?_⟩
 · obtain ⟨s, hs⟩ := hc
   have hj : j < 1 := hj
   obtain rfl : j = 0 := by omega
   show R h D μ (.str (zu0 (c 0))) v
   rw [hs] at r |-
   exact r
 · have h0 : c 0 = .str x := hx 0 (by decide)
   refine ⟨⟨x, h0⟩, ?_⟩
   show zu0 (c 0) = x
   rw [h0]; rfl
def zan (l : List Lbx) (i : Nat) : Lbx := zj2 sxV l i
def yjg (L : za7) (l : List Lbx) : AV := .lst 1 (L zcd l) (fun i => sxC L (L (L zan l) i))
def zhg (x : AV) : Prop := okW sxV x
def zcx (x : AV) : List Lbx := rdW sxV x
def noB (x : List UInt8) : Bool := seq x []
def ytb (L : za7) : zbh := (58, fun xs => match xs with | [.str s] => some (True, .bool (L noB s)) | _ => none)
theorem yas : zaz Tryz.prog (ytb std) := by
 intro xs p r h hp
 dsimp only [ytb] at h |-
 split at h <;> cases h
 try simp only [L2, L3, std] at hp |-
 rename_i s
 refine za5 (T := tt) (S := noS) (lo := noA) (lb := noA) 5 (fn := Tryz.f58) rfl rfl (by kernel_rfl) (by kernel_rfl) rfl zaa (zbx _) (by kernel_rfl) ?_
 intro L P' Q' hL hP hQ
 (cbv; try simp only [syT, true_and, and_true])
 subst hL; subst hQ
 rw [zae]; rfl
def yjm (l : List Lbx) : Int := zge noB l
def yqk (l : List Lbx) (i : Nat) : Prop := zlu noB l i
def toNS (l : List Lbx) (i : Nat) : Nat := l.length - i
def yj3 (L : za7) (n : Nat) (l : List Lbx) : Nat × Ob := (500000, .row 9 1 n (fun i => sxC L (L (L zan l) i)))
def yfp (n : Nat) : List AV := [.sl 500000 1 0 n, .fn 58 [] []]
def ymg (L : za7) : zoz := (71, fun raw ob => match raw with
 | [.sl a 1 0 n, .fn g [] []] => match zai g 58, ob a with
   | true, some (.row _ _ m get) => some ⟨[.sl 500000 1 0 n, .fn 58 [] []], [(500000, .row 9 1 n get)], L zhg (.lst 1 n get) /\ L upN n, .int .i64 (L yjm (L zcx (.lst 1 n get))), [(500000, .row 9 1 n (fun i => sxC L (L (L zan (L zcx (.lst 1 n get))) i)))]⟩
   | _, _ => none
 | _ => none)
def ixsA (L : za7) (l : List Lbx) : Nat -> St -> Option Ann := fun id st => match id with
 | 0 => some ⟨Nat, fun i => [(8, .int .i64 (L zaq i))], fun i => [], [0, 1, 7], [500000], fun i => L2 L yqk l i, fun i => L2 L toNS l i⟩
 | _ => none
theorem ymf {l : List Lbx} {n : Nat} (hz : n <= 1000000) (hlw : n = l.length) : zbf Tryz.prog 71 (yfp n) [yj3 std n l] (.int .i64 (yjm l)) [yj3 std n l] := by
 refine zbi (T := tt) (S := fun L => zcv [ytb L] []) (lo := fun L => ixsA L l) (lb := noA) 5 (fn := Tryz.f71) (xs := fun L => yfp n) (rts := fun L => [.int .i64 (L yjm l)]) (O := fun L => [yj3 L n l]) (O1 := fun L => [yj3 L n l]) rfl rfl (by kernel_rfl) (by kernel_rfl) (by kernel_rfl) zaa (zb1 ⟨yas, trivial⟩ trivial) (by kernel_rfl) ?_
 intro L P' Q' hL hP hQ
 (cbv; try simp only [syT, true_and, and_true])
 refine ⟨⟨0, ?_⟩, fun i hi => ?_⟩
 · (cbv; try simp only [syT, true_and, and_true])
   (subst hL; subst hQ; simp only [L2, L3, std] at *; try simp only [syS, reduceCtorEq, Int.reduceToNat, Int.reduceAdd, Int.reduceSub] at *)
   exact zkj _ _
 · have hi2 : yqk l i := by
     have h := hi
     rw [hL] at h
     exact h
   clear hi
   (cbv; try simp only [syT, true_and, and_true])
   refine ⟨fun hlt => ⟨?_, fun hb => ?_, fun hb => ⟨i + 1, ?_⟩⟩, fun hge => ?_⟩
   · (subst hL; subst hQ; simp only [L2, L3, std] at *; try simp only [syS, reduceCtorEq, Int.reduceToNat, Int.reduceAdd, Int.reduceSub] at *)
     omega
   · (subst hL; subst hQ; simp only [L2, L3, std] at *; try simp only [syS, reduceCtorEq, Int.reduceToNat, Int.reduceAdd, Int.reduceSub] at *)
     exact (zft (V := sxV) hi2 (by omega) hb).symm
   · (cbv; try simp only [syT, true_and, and_true])
     (subst hL; subst hQ; simp only [L2, L3, std] at *; try simp only [syS, reduceCtorEq, Int.reduceToNat, Int.reduceAdd, Int.reduceSub] at *)
     exact ⟨by omega, zer (V := sxV) hi2 (by omega) hb, by show l.length - (i + 1) + 1 <= l.length - i; omega⟩
   · (subst hL; subst hQ; simp only [L2, L3, std] at *; try simp only [syS, reduceCtorEq, Int.reduceToNat, Int.reduceAdd, Int.reduceSub] at *)
     exact (zfu hi2 (by omega)).symm
theorem zxm : zgm Tryz.prog (ymg std) := by
 intro raw ob T h hp
 unfold ymg at h
 simp only at h
 split at h
 rotate_left
 · cases h
 rename_i a n g
 split at h
 rotate_left
 · cases h
 rename_i t m get hg _
 obtain rfl : g = 58 := of_decide_eq_true hg
 cases h
 obtain ⟨ho, hn⟩ := hp
 have ho : zhg (.lst 1 n get) := ho
 have hn : n <= 1000000 := hn
 have hl : (zcx (.lst 1 n get)).length = n := zk8 _ _ _ _
 refine yjf zjw ho ?_
 exact ymf (l := zcx (.lst 1 n get)) hn hl.symm
end Sy
end Go.Proofs.YtogpolfhcbgcbaaGreatDoor
namespace Go.Proofs.YtogpolfhcbgcbaaGreatDoor
namespace Sy
open Go Go.RowKit
set_option maxRecDepth 100000
set_option linter.unusedSimpArgs false
set_option linter.unusedVariables false
theorem zkf {l : List Lbx} {i : Nat} (h : i < l.length) : zan l i = l[i] := zb2 h
def zjb (l : List Lbx) : List Lbx := l.filter fun x => !noB x
def zeh (l : List Lbx) (i : Nat) : List Lbx := zjb (l.take i)
def kE (l : List Lbx) (i : Nat) : Nat := (zeh l i).length
def dE (l : List Lbx) (i : Nat) : List Lbx := zeh l i ++ l.drop (kE l i)
def nE (l : List Lbx) : Nat := (zjb l).length
def yex (l : List Lbx) : List Lbx := zjb l ++ List.replicate (l.length - nE l) []
def dOkE (l : List Lbx) (i : Nat) : Prop := i <= l.length
theorem zbp (l : List Lbx) (q : Nat) : zan l q = (l[q]?).getD ([] : Lbx) := by
 show l.getD q ([] : Lbx) = _
 rw [List.getD_eq_getElem?_getD]
theorem zmz {l : List Lbx} (h : ∀ x ∈ l, noB x = false) : zjb l = l := by
 unfold zjb
 rw [List.filter_eq_self]
 intro x hx
 rw [h x hx]; rfl
theorem zva {α : Type} (p : α -> Bool) : ∀ l : List α, 0 <= zge p l -> ∃ (j : Nat) (hj : j < l.length), zge p l = j /\ p l[j] = true /\ ∀ x ∈ l.take j, p x = false
 | [], h => by simp [zge] at h
 | x :: l, h => by
   by_cases hx : p x = true
   · exact ⟨0, by simp, by simp [zge, hx], hx, by simp⟩
   · have hx' : p x = false := by simpa using hx
     have hge := zsh p l
     have h0 : 0 <= zge p l := by
       rw [zge, if_neg hx] at h
       split at h <;> omega
     obtain ⟨j, hj, e1, e2, e3⟩ := zva p l h0
     refine ⟨j + 1, by simpa using hj, ?_, by simpa using e2, ?_⟩
     · rw [zge, if_neg hx, if_neg (by omega), e1]; rfl
     · intro y hy
       rw [List.take_succ_cons, List.mem_cons] at hy
       rcases hy with rfl | hy
       · exact hx'
       · exact e3 y hy
theorem yc9 {l : List Lbx} (h : yjm l = -1) : zjb l = l := by
 have h1 := zgd (noB) l
 have h2 : l.any (noB) = false := by
   rw [<- h1, decide_eq_false]
   have h : zge (noB) l = -1 := h
   omega
 refine zmz fun x hx => ?_
 rw [List.any_eq_false] at h2
 simpa using h2 x hx
theorem ziq {l : List Lbx} {i : Nat} (hi : i < l.length) : zeh l (i + 1) = if noB (zan l i) = true then zeh l i else zeh l i ++ [zan l i] := by
 unfold zeh zjb
 rw [List.take_succ_eq_append_getElem hi, List.filter_append, zkf hi]
 cases h : noB l[i] with
 | true => rw [if_pos rfl]; simp [h]
 | false => rw [if_neg (by decide)]; simp [h]
theorem yc8 {l : List Lbx} (h : ¬ yjm l = -1) : ∃ j : Nat, yjm l = j /\ j < l.length /\ zeh l (j + 1) = l.take j := by
 have h0 := (zsh (noB) l).1
 obtain ⟨j, hj, e1, e2, e3⟩ := zva (noB) l (by have h : ¬ zge (noB) l = -1 := h; omega)
 refine ⟨j, e1, hj, ?_⟩
 rw [ziq hj, zkf hj, if_pos e2]
 exact zmz e3
theorem yjk {l : List Lbx} (i : Nat) : kE l i <= i := by
 have h1 : kE l i <= (l.take i).length := List.length_filter_le _ _
 rw [List.length_take] at h1
 omega
theorem zok {l : List Lbx} (i q : Nat) : zan (dE l i) q = if q < kE l i then zan (zeh l i) q else zan l q := by
 rw [zbp, zbp, zbp, dE]
 split
 · rename_i h
   rw [List.getElem?_append_left h]
 · rename_i h
   have h : (zeh l i).length <= q := by
     have : ¬ q < (zeh l i).length := h
     omega
   rw [List.getElem?_append_right h, List.getElem?_drop]
   unfold kE
   rw [show (zeh l i).length + (q - (zeh l i).length) = q by omega]
theorem ydb {l : List Lbx} (i : Nat) : zan (dE l i) i = zan l i := by
 have := yjk (l := l) i
 rw [zok, if_neg (by omega)]
theorem yd9 {l : List Lbx} {j : Nat} (hj : j < l.length) (h : zeh l (j + 1) = l.take j) : kE l (j + 1) = j /\ dE l (j + 1) = l := by
 have hk : kE l (j + 1) = j := by
   rw [kE, h, List.length_take]; omega
 refine ⟨hk, ?_⟩
 rw [dE, h, hk, List.take_append_drop]
theorem yi2 {l : List Lbx} {i : Nat} (hi : i < l.length) (h : noB (zan l i) = true) : kE l (i + 1) = kE l i /\ dE l (i + 1) = dE l i := by
 have e : zeh l (i + 1) = zeh l i := by rw [ziq hi, if_pos h]
 have e2 : kE l (i + 1) = kE l i := by rw [kE, e]; rfl
 exact ⟨e2, by rw [dE, e, e2]; rfl⟩
theorem yi3 {l : List Lbx} {i : Nat} (hi : i < l.length) (h : noB (zan l i) = false) : kE l (i + 1) = kE l i + 1 /\ ∀ q, zan (dE l (i + 1)) q = if q = kE l i then zan l i else zan (dE l i) q := by
 have e : zeh l (i + 1) = zeh l i ++ [zan l i] := by rw [ziq hi, if_neg (by rw [h]; decide)]
 have e2 : kE l (i + 1) = kE l i + 1 := by rw [kE, e, List.length_append]; rfl
 refine ⟨e2, fun q => ?_⟩
 rw [zok, zok, e2, e, zbp (zeh l i ++ [zan l i])]
 by_cases h1 : q < kE l i
 · rw [if_pos (by omega), if_neg (by omega), if_pos h1, List.getElem?_append_left h1, zbp]
 · by_cases h2 : q = kE l i
   · rw [if_pos (by omega), if_pos h2, List.getElem?_append_right (by unfold kE at h2; omega), show q - (zeh l i).length = 0 by unfold kE at h2; omega]
     rfl
   · rw [if_neg (by omega), if_neg h2, if_neg h1]
theorem yda {l : List Lbx} {i : Nat} (hi : i = l.length) : kE l i = nE l /\ ∀ q, zan (yex l) q = if q < nE l then zan (dE l i) q else ([] : Lbx) := by
 subst hi
 have e : zeh l l.length = zjb l := by rw [zeh, List.take_length]
 have e2 : kE l l.length = nE l := by rw [kE, e]; rfl
 refine ⟨e2, fun q => ?_⟩
 rw [zok, e2, e, zbp, yex]
 split
 · rename_i h
   rw [List.getElem?_append_left h, zbp]
 · rename_i h
   have h' : (zjb l).length <= q := by
     have : ¬ q < (zjb l).length := h
     omega
   rw [List.getElem?_append_right h', List.getElem?_replicate]
   split <;> rfl
theorem ydl {l : List Lbx} (h : yjm l = -1) : yex l = l /\ nE l = l.length := by
 have e := yc9 h
 have e2 : nE l = l.length := by rw [nE, e]
 refine ⟨?_, e2⟩
 rw [yex, e2, e, Nat.sub_self]
 simp
def yno (L : za7) : zoz := (56, fun raw ob => match raw with
 | [.sl a 1 0 n, .fn g [] []] => match zai g 58, ob a with
   | true, some (.row _ _ m get) => some ⟨[.sl 500000 1 0 n, .fn 58 [] []], [(500000, .row 9 1 n get)], L zhg (.lst 1 n get) /\ L upN n, .sl 500000 1 0 (L nE (L zcx (.lst 1 n get))), [(500000, .row 9 1 n (fun i => sxC L (L (L zan (L yex (L zcx (.lst 1 n get)))) i)))]⟩
   | _, _ => none
 | _ => none)
def yv8 (L : za7) (l : List Lbx) (n : Nat) : Nat -> St -> Option Ann := fun id st => match id with
 | 0 => some ⟨Nat, fun i => [(6, .int .i64 (L zaq i)), (5, .int .i64 (L zaq (L (L kE l) i)))], fun i => [(500000, .row 9 1 n (fun q => sxC L (L (L zan (L (L dE l) i)) q)))], [0, 1], [], fun i => L (L dOkE l) i, fun i => L2 L toNS l i⟩
 | _ => none
theorem yey {z : Int} {j : Nat} (h : z = (j : Int)) (hj : j <= 1000000) : (z + 1 + 9223372036854775808) % 18446744073709551616 - 9223372036854775808 = ((j + 1 : Nat) : Int) := by omega
theorem yuc (q : Nat) (x : Lbx) (f : Nat -> Lbx) (i j : Nat) (h : j < 1) : over std q 0 1 [.str x] (fun i => sxC std (f i)) i j = sxC std (if i = q then x else f i) j := by
 rw [zjf, if_pos (by omega)]
 obtain rfl : j = 0 := by omega
 by_cases e : i = q
 · subst e
   rw [if_pos rfl, za4]; rfl
 · rw [if_neg e, zah e]; rfl
theorem selE (k n : Nat) (x : Lbx) (i j : Nat) (h : j < 1) (hk : k <= n) (hi : i < n) : zm6 (zdb k (n - k) i) (zbk AV.dead [.str []] j) (sxC std x j) = sxC std (if i < k then x else []) j := by
 rw [zzn]
 obtain rfl : j = 0 := by omega
 by_cases e : i < k
 · rw [if_pos e, if_neg (by rw [zrb]; omega)]
 · rw [if_neg e, if_pos (by rw [zrb]; omega)]; rfl
theorem ynn {l : List Lbx} {n : Nat} (hz : n <= 1000000) (hlw : n = l.length) : zbf Tryz.prog 56 (yfp n) [yj3 std n l] (.sl 500000 1 0 (nE l)) [yj3 std n (yex l)] := by
 refine zbi (T := tt) (S := fun L => zcv [ytb L] [ymg L]) (lo := fun L => yv8 L l n) (lb := noA) 5 (fn := Tryz.f56) (xs := fun L => yfp n) (rts := fun L => [.sl 500000 1 0 (L nE l)]) (O := fun L => [yj3 L n l]) (O1 := fun L => [yj3 L n (L yex l)]) rfl rfl (by kernel_rfl) (by kernel_rfl) (by kernel_rfl) zaa (zb1 ⟨yas, trivial⟩ ⟨zxm, trivial⟩) (by kernel_rfl) ?_
 intro L P' Q' hL hP hQ
 have hG : ∀ (y : List Lbx), n = zcd y -> L zcx (.lst 1 n (fun i => sxC L (L (L zan y) i))) = y := by subst hL; intro y hy; subst hy; exact (zcg zjw y).2
 have hO : ∀ (y : List Lbx), n = zcd y -> L zhg (.lst 1 n (fun i => sxC L (L (L zan y) i))) := by subst hL; intro y hy; subst hy; exact (zcg zjw y).1
 (cbv; try simp only [syT, true_and, and_true])
 simp only [hG l hlw, hO l hlw]
 refine ⟨fun _ _ _ _ => trivial, ⟨trivial, ?_⟩, fun h1 => ?_, fun h1 => ?_⟩
 · subst hL; exact hz
 · (subst hL; subst hQ; simp only [L2, L3, std] at *; try simp only [syS, reduceCtorEq, Int.reduceToNat, Int.reduceAdd, Int.reduceSub] at *)
   obtain ⟨k1, k2⟩ := ydl h1
   rw [k1, k2]
   exact ⟨fun _ _ _ _ => rfl, hlw⟩
 · have h1' : ¬ yjm l = -1 := by
     have h := h1
     rw [hL] at h
     simpa [ieq, std] using h
   clear h1
   obtain ⟨j, hj, hjl, hjk⟩ := yc8 h1'
   obtain ⟨k1, k2⟩ := yd9 hjl hjk
   refine ⟨⟨j + 1, ?_⟩, fun i hi => ?_⟩
   · (cbv; try simp only [syT, true_and, and_true])
     (subst hL; subst hQ; simp only [L2, L3, std] at *; try simp only [syS, reduceCtorEq, Int.reduceToNat, Int.reduceAdd, Int.reduceSub] at *)
     rw [k1, k2]
     exact ⟨fun _ _ _ _ => rfl, hj, yey hj (by omega), by show j + 1 <= _; omega⟩
   · have hi2 : i <= l.length := by
       have h := hi
       rw [hL] at h
       exact h
     clear hi
     have hkn := yjk (l := l) i
     (cbv; try simp only [syT, true_and, and_true])
     refine ⟨fun hlt => ⟨?_, fun hb => ⟨?_, ⟨i + 1, ?_⟩⟩, fun hb => ⟨i + 1, ?_⟩⟩, fun hge => ⟨?_, ?_, ?_, ?_⟩⟩
     · (subst hL; subst hQ; simp only [L2, L3, std] at *; try simp only [syS, reduceCtorEq, Int.reduceToNat, Int.reduceAdd, Int.reduceSub] at *)
       omega
     · (subst hL; subst hQ; simp only [L2, L3, std] at *; try simp only [syS, reduceCtorEq, Int.reduceToNat, Int.reduceAdd, Int.reduceSub] at *)
       omega
     · (cbv; try simp only [syT, true_and, and_true])
       (subst hL; subst hQ; simp only [L2, L3, std] at *; try simp only [syS, reduceCtorEq, Int.reduceToNat, Int.reduceAdd, Int.reduceSub] at *)
       have hl : i < l.length := by omega
       have hb2 : noB (zan l i) = false := by rw [<- ydb]; exact hb
       obtain ⟨m1, m2⟩ := yi3 hl hb2
       refine ⟨fun q j hq hj => ?_, ?_, yey rfl (by omega), by show i + 1 <= _; omega, by show l.length - (i + 1) + 1 <= l.length - i; omega⟩
       · rw [yuc _ _ _ _ _ hj, m2, ydb]
       · rw [m1]
         exact yey rfl (by omega)
     · (cbv; try simp only [syT, true_and, and_true])
       (subst hL; subst hQ; simp only [L2, L3, std] at *; try simp only [syS, reduceCtorEq, Int.reduceToNat, Int.reduceAdd, Int.reduceSub] at *)
       have hl : i < l.length := by omega
       have hb2 : noB (zan l i) = true := by rw [<- ydb]; exact hb
       obtain ⟨m1, m2⟩ := yi2 hl hb2
       rw [m1, m2]
       exact ⟨fun _ _ _ _ => rfl, rfl, yey rfl (by omega), by show i + 1 <= _; omega, by show l.length - (i + 1) + 1 <= l.length - i; omega⟩
     · (subst hL; subst hQ; simp only [L2, L3, std] at *; try simp only [syS, reduceCtorEq, Int.reduceToNat, Int.reduceAdd, Int.reduceSub] at *)
       omega
     · (subst hL; subst hQ; simp only [L2, L3, std] at *; try simp only [syS, reduceCtorEq, Int.reduceToNat, Int.reduceAdd, Int.reduceSub] at *)
       omega
     · (subst hL; subst hQ; simp only [L2, L3, std] at *; try simp only [syS, reduceCtorEq, Int.reduceToNat, Int.reduceAdd, Int.reduceSub] at *)
       obtain ⟨m1, m2⟩ := yda (l := l) (i := i) (by omega)
       intro q j hq hj
       rw [selE _ _ _ _ _ hj (by omega) hq, m2, m1]
     · (subst hL; subst hQ; simp only [L2, L3, std] at *; try simp only [syS, reduceCtorEq, Int.reduceToNat, Int.reduceAdd, Int.reduceSub] at *)
       exact (yda (by omega)).1
theorem zy0 : zgm Tryz.prog (yno std) := by
 intro raw ob T h hp
 unfold yno at h
 simp only at h
 split at h
 rotate_left
 · cases h
 rename_i a n g
 split at h
 rotate_left
 · cases h
 rename_i t m get hg _
 obtain rfl : g = 58 := of_decide_eq_true hg
 cases h
 obtain ⟨ho, hn⟩ := hp
 have ho : zhg (.lst 1 n get) := ho
 have hn : n <= 1000000 := hn
 have hl : (zcx (.lst 1 n get)).length = n := zk8 _ _ _ _
 refine yjf zjw ho ?_
 exact ynn (l := zcx (.lst 1 n get)) hn hl.symm
end Sy
end Go.Proofs.YtogpolfhcbgcbaaGreatDoor
namespace Go.Proofs.YtogpolfhcbgcbaaGreatDoor
namespace Sy
open Go Go.RowKit
set_option maxRecDepth 100000
set_option linter.unusedSimpArgs false
set_option linter.unusedVariables false
def zw6 (s sep : List UInt8) : Nat := cntB s sep + 1
def yv1 (a b : Int) : Prop := a = 0 /\ b = -1
def yv2 (L : za7) : zoz := (72, fun raw ob => match raw with
 | [.str s, .str sep, .int .i64 a, .int .i64 b] => some ⟨[.str s, .str sep, .int .i64 a, .int .i64 b], [], L znq sep /\ L2 L upto 900000 s /\ L2 L yv1 a b, .sl 900 1 0 (L2 L zw6 s sep), [(900, .row 9 1 (L2 L zw6 s sep) (fun i => sxC L (L (L zan (L2 L zac s sep)) i)))]⟩
 | _ => none)
theorem ych : zgm Tryz.prog (yv2 std) := by
 intro raw ob T h hp
 unfold yv2 at h
 simp only at h
 split at h
 rotate_left
 · cases h
 rename_i s sep a b
 cases h
 obtain ⟨p1, p2, rfl, rfl⟩ : znq sep /\ s.length <= 900000 /\ a = 0 /\ b = -1 := hp
 refine zbi (T := tt) (S := fun L => zcv [yh8 L, ydj L, nev 96] []) (lo := fun L => splA L s sep) (lb := noA) 5 (fn := Tryz.f72) (xs := fun L => [.str s, .str sep, .int .i64 0, .int .i64 (-1)]) (rts := fun L => [.sl 900 1 0 (L2 L zw6 s sep)]) (O := fun L => []) (O1 := fun L => [(900, .row 9 1 (L2 L zw6 s sep) (fun i => sxC L (L (L zan (L2 L zac s sep)) i)))]) rfl rfl (by kernel_rfl) (by kernel_rfl) (by kernel_rfl) zaa (zb1 ⟨zv9, zon, zuk _, trivial⟩ trivial) (by kernel_rfl) ?_
 intro L P' Q' hL hP hQ
 (cbv; try simp only [syT, true_and, and_true])
 have hc : zld s sep = (cntB s sep : Int) := rfl
 have hle := zvs s sep
 have hsep : sep ≠ [] := fun e => by rw [e] at p1; cases p1
 refine ⟨fun h => ?_, fun h1 => ⟨fun h => ?_, fun h2 => ⟨fun h3 => ⟨?_, ?_, ⟨0, ?_⟩, fun i hi => ?_⟩, fun h3 => ?_⟩⟩⟩
 · (subst hL; subst hQ; simp only [L2, L3, std] at *; try simp only [syS, reduceCtorEq, Int.reduceToNat, Int.reduceAdd, Int.reduceSub] at *)
 · (subst hL; subst hQ; simp only [L2, L3, std] at *; try simp only [syS, reduceCtorEq, Int.reduceToNat, Int.reduceAdd, Int.reduceSub] at *)
   exact absurd h hsep
 · (subst hL; subst hQ; simp only [L2, L3, std] at *; try simp only [syS, reduceCtorEq, Int.reduceToNat, Int.reduceAdd, Int.reduceSub] at *)
   exact p1
 · (subst hL; subst hQ; simp only [L2, L3, std] at *; try simp only [syS, reduceCtorEq, Int.reduceToNat, Int.reduceAdd, Int.reduceSub] at *)
   rw [hc]
   omega
 · (cbv; try simp only [syT, true_and, and_true])
   (subst hL; subst hQ; simp only [L2, L3, std] at *; try simp only [syS, reduceCtorEq, Int.reduceToNat, Int.reduceAdd, Int.reduceSub] at *)
   rw [hc, show min (((cntB s sep : Nat) + 1 + 9223372036854775808 : Int) % 18446744073709551616 - 9223372036854775808) (((s.length : Nat) + 1 + 9223372036854775808 : Int) % 18446744073709551616 - 9223372036854775808) = (cntB s sep : Nat) + 1 by omega]
   refine ⟨⟨by omega, fun k j hk hj => ?_⟩, by omega, by omega, rfl, Nat.zero_le _⟩
   rw [zla, if_neg (by omega)]
   match j, hj with
   | 0, _ => rfl
 · cbv at hi
   (cbv; try simp only [syT, true_and, and_true])
   refine ⟨fun h4 => ⟨?_, fun h5 => ?_, fun h5 => ⟨?_, ?_, ?_, i + 1, ?_⟩⟩, fun h4 => ⟨?_, ?_, ?_⟩⟩
   · (subst hL; subst hQ; simp only [L2, L3, std] at *; try simp only [syS, reduceCtorEq, Int.reduceToNat, Int.reduceAdd, Int.reduceSub] at *)
     exact p1
   · (subst hL; subst hQ; simp only [L2, L3, std] at *; try simp only [syS, reduceCtorEq, Int.reduceToNat, Int.reduceAdd, Int.reduceSub] at *)
     obtain ⟨r1, r2, r3⟩ := zfq (c := by1 sep) (s := s) (i := i) (show i < cntB s sep by omega)
     exfalso
     have h5 : Lib.indexByte (zee (by1 sep) s i) (by1 sep) < 0 := h5
     omega
   · (subst hL; subst hQ; simp only [L2, L3, std] at *; try simp only [syS, reduceCtorEq, Int.reduceToNat, Int.reduceAdd, Int.reduceSub] at *)
     obtain ⟨r1, r2, r3⟩ := zfq (c := by1 sep) (s := s) (i := i) (show i < cntB s sep by omega)
     obtain ⟨q1, q2⟩ := zdk (by1 sep) s i hi
     have r1 : 0 <= zfl (zc5 s sep i) sep := r1
     have r2 : (zfl (zc5 s sep i) sep).toNat < (zc5 s sep i).length := r2
     have q2 : (zc5 s sep i).length <= s.length := q2
     omega
   · (subst hL; subst hQ; simp only [L2, L3, std] at *; try simp only [syS, reduceCtorEq, Int.reduceToNat, Int.reduceAdd, Int.reduceSub] at *)
     omega
   · (subst hL; subst hQ; simp only [L2, L3, std] at *; try simp only [syS, reduceCtorEq, Int.reduceToNat, Int.reduceAdd, Int.reduceSub] at *)
     obtain ⟨r1, r2, r3⟩ := zfq (c := by1 sep) (s := s) (i := i) (show i < cntB s sep by omega)
     obtain ⟨q1, q2⟩ := zdk (by1 sep) s i hi
     have r1 : 0 <= zfl (zc5 s sep i) sep := r1
     have r2 : (zfl (zc5 s sep i) sep).toNat < (zc5 s sep i).length := r2
     have q2 : (zc5 s sep i).length <= s.length := q2
     have e1 : (sep.length : Int) = 1 := by rw [p1]; rfl
     omega
   · (cbv; try simp only [syT, true_and, and_true])
     (subst hL; subst hQ; simp only [L2, L3, std] at *; try simp only [syS, reduceCtorEq, Int.reduceToNat, Int.reduceAdd, Int.reduceSub] at *)
     obtain ⟨r1, r2, r3⟩ := zfq (c := by1 sep) (s := s) (i := i) (show i < cntB s sep by omega)
     obtain ⟨q1, q2⟩ := zdk (by1 sep) s i hi
     have r1 : 0 <= zfl (zc5 s sep i) sep := r1
     have r2 : (zfl (zc5 s sep i) sep).toNat < (zc5 s sep i).length := r2
     have q2 : (zc5 s sep i).length <= s.length := q2
     have e1 : (sep.length : Int) = 1 := by rw [p1]; rfl
     refine ⟨fun k j hk hj => ?_, by omega, ?_, by omega, by omega⟩
     · rw [zu8 _ _ _ _ _ hj]
       congr 1
       by_cases hki : k = i
       · subst hki
         rw [if_pos rfl, zla, if_pos (by omega), show (zfl (zc5 s sep k) sep + 0 + 9223372036854775808) % 18446744073709551616 - 9223372036854775808 = zfl (zc5 s sep k) sep by omega]
         exact r3.symm
       · rw [if_neg hki, zla, zla]
         by_cases hlt : k < i
         · rw [if_pos hlt, if_pos (by omega)]
         · rw [if_neg hlt, if_neg (by omega)]
     · rw [e1, show ((zfl (zc5 s sep i) sep + 1 + 9223372036854775808) % 18446744073709551616 - 9223372036854775808).toNat = (zfl (zc5 s sep i) sep).toNat + 1 by omega]
       rfl
   · (subst hL; subst hQ; simp only [L2, L3, std] at *; try simp only [syS, reduceCtorEq, Int.reduceToNat, Int.reduceAdd, Int.reduceSub] at *)
     omega
   · (subst hL; subst hQ; simp only [L2, L3, std] at *; try simp only [syS, reduceCtorEq, Int.reduceToNat, Int.reduceAdd, Int.reduceSub] at *)
     omega
   · (subst hL; subst hQ; simp only [L2, L3, std] at *; try simp only [syS, reduceCtorEq, Int.reduceToNat, Int.reduceAdd, Int.reduceSub] at *)
     have hi' : i = cntB s sep := by omega
     subst hi'
     rw [show ((cntB s sep : Nat) + 1 + 9223372036854775808 : Int) % 18446744073709551616 - 9223372036854775808 = ((cntB s sep + 1 : Nat) : Int) by omega, Int.toNat_natCast]
     refine ⟨⟨rfl, fun k j hk hj => ?_⟩, rfl⟩
     rw [zu8 _ _ _ _ _ hj]
     show AV.str _ = AV.str (ze9 (zac s sep) k)
     congr 1
     by_cases hki : k = cntB s sep
     · rw [if_pos hki, hki]; exact (zpc _ _).symm
     · have hk : k < cntB s sep + 1 := hk
       rw [if_neg hki, zla, if_pos (by omega)]
 · (subst hL; subst hQ; simp only [L2, L3, std] at *; try simp only [syS, reduceCtorEq, Int.reduceToNat, Int.reduceAdd, Int.reduceSub] at *)
   exact absurd h3 (by decide)
def ytz (L : za7) : zoz := (57, fun raw ob => match raw with
 | [.str s, .str sep] => some ⟨[.str s, .str sep], [], L znq sep /\ L2 L upto 900000 s, .sl 900 1 0 (L2 L zw6 s sep), [(900, .row 9 1 (L2 L zw6 s sep) (fun i => sxC L (L (L zan (L2 L zac s sep)) i)))]⟩
 | _ => none)
theorem zzh : zgm Tryz.prog (ytz std) := by
 intro raw ob T h hp
 unfold ytz at h
 simp only at h
 split at h
 rotate_left
 · cases h
 rename_i s sep
 cases h
 obtain ⟨p1, p2⟩ : znq sep /\ s.length <= 900000 := hp
 refine zbi (T := tt) (S := fun L => zcv [] [yv2 L]) (lo := noA) (lb := noA) 5 (fn := Tryz.f57) (xs := fun L => [.str s, .str sep]) (rts := fun L => [.sl 900 1 0 (L2 L zw6 s sep)]) (O := fun L => []) (O1 := fun L => [(900, .row 9 1 (L2 L zw6 s sep) (fun i => sxC L (L (L zan (L2 L zac s sep)) i)))]) rfl rfl (by kernel_rfl) (by kernel_rfl) (by kernel_rfl) zaa (zb1 trivial ⟨ych, trivial⟩) (by kernel_rfl) ?_
 intro L P' Q' hL hP hQ
 (cbv; try simp only [syT, true_and, and_true])
 subst hL
 exact ⟨⟨p1, p2, rfl, rfl⟩, fun _ _ _ _ => trivial⟩
def zm4 : List UInt8 := [47]
def zam (s : Lbx) : List Lbx := zjb (zac s zm4)
def yfy (L : za7) : zbh := (33, fun xs => match xs with
 | [.str s] => some (L2 L upto 900000 s, .lst 1 (L zcd (L zam s)) (fun i => sxC L (L (L zan (L zam s)) i)))
 | _ => none)
theorem zu3 : zaz Tryz.prog (yfy std) := by
 intro xs p r h hp
 dsimp only [yfy] at h |-
 split at h <;> cases h
 try simp only [L2, L3, std] at hp |-
 rename_i s
 have hs : s.length <= 900000 := hp
 refine za5 (T := tt) (S := fun L => zcv [] [ytz L, yno L]) (lo := noA) (lb := noA) 5 (fn := Tryz.f33) rfl rfl (by kernel_rfl) (by kernel_rfl) rfl zaa (zb1 trivial ⟨zzh, zy0, trivial⟩) (by kernel_rfl) ?_
 intro L P' Q' hL hP hQ
 (cbv; try simp only [syT, true_and, and_true])
 subst hL; subst hQ
 have hl : zw6 s [47] = zcd (zac s [47]) := (zar (by1 [47]) s).symm
 obtain ⟨r1, r2⟩ := zcg zjw (zac s [47])
 have r1 : zhg (.lst 1 (zw6 s [47]) fun i => sxC std (zan (zac s [47]) i)) := by rw [hl]; exact r1
 have r2 : zcx (.lst 1 (zw6 s [47]) fun i => sxC std (zan (zac s [47]) i)) = zac s [47] := by rw [hl]; exact r2
 have hc := zvs s [47]
 refine ⟨⟨rfl, hs⟩, fun _ _ _ _ => trivial, ⟨r1, ?_⟩, ?_⟩
 · show cntB s [47] + 1 <= 1000000
   omega
 · show zfo (.lst 1 (zcd (zam s)) fun i => sxC std (zan (zam s) i)) (.lst 1 (nE (zcx (.lst 1 (zw6 s [47]) fun i => sxC std (zan (zac s [47]) i)))) fun i => sxC std (zan (yex (zcx (.lst 1 (zw6 s [47]) fun i => sxC std (zan (zac s [47]) i)))) (Nat.add 0 i)))
   rw [r2, zhr]
   refine ⟨rfl, fun i j hi hj => ?_⟩
   have hi : i < (zjb (zac s [47])).length := hi
   show AV.str (zan (yex (zac s [47])) (Nat.add 0 i)) = AV.str (zan (zam s) i)
   rw [show Nat.add 0 i = i from Nat.zero_add i, zbp, zbp, yex, List.getElem?_append_left hi]
   rfl
end Sy
end Go.Proofs.YtogpolfhcbgcbaaGreatDoor
namespace Go.Proofs.YtogpolfhcbgcbaaGreatDoor
namespace Sy
open Go Go.RowKit
set_option maxRecDepth 100000
set_option linter.unusedSimpArgs false
set_option linter.unusedVariables false
theorem zg7 {c : UInt8} : ∀ {u : List UInt8} {v : List UInt8}, (∀ x ∈ u, x ≠ c) -> zav c (u ++ c :: v) = u :: zav c v
 | [], v, _ => by simp [zav]
 | x :: u, v, h => by
   have ih := zg7 (u := u) (v := v) (fun y hy => h y (by simp [hy]))
   rw [List.cons_append, zav, if_neg (h x (by simp)), ih]
theorem zw5 {c : UInt8} {u : List UInt8} (h : ∀ x ∈ u, x ≠ c) : zav c u = [u] := zel fun k hk => h c (List.mem_of_getElem? hk) rfl
theorem yre {s : List UInt8} {c : UInt8} {m : Nat} (h0 : ∀ k, k < m -> s[k]? ≠ some c) (h : s[m]? = some c) : Lib.indexByte s c = m := by
 by_cases hn : Lib.indexByte s c < 0
 · exact absurd h (yca hn m)
 · obtain ⟨h1, h2, h3⟩ := zq4 hn
   rcases Nat.lt_trichotomy (Lib.indexByte s c).toNat m with hlt | heq | hgt
   · exact absurd h1 (h0 _ hlt)
   · omega
   · exact absurd h (h2 _ hgt)
theorem yme {u v : List UInt8} {c : UInt8} (h : ∀ x ∈ u, x ≠ c) : Lib.indexByte (u ++ c :: v) c = u.length := by
 refine yre (fun k hk => ?_) (by simp)
 rw [List.getElem?_append_left hk]
 intro e
 exact h c (List.mem_of_getElem? e) rfl
theorem yns {u v : List UInt8} (h : ∀ x ∈ u, x ≠ 58) : yi7 (u ++ 58 :: v) [58] = u /\ ydf (u ++ 58 :: v) [58] = v /\ ysg (u ++ 58 :: v) [58] = true := by
 have e : zfl (u ++ 58 :: v) [58] = u.length := yme h
 rw [yi7, ydf, ysg, e, if_neg (by omega), if_neg (by omega)]
 refine ⟨by simp, by simp, by simp⟩
theorem yr8 {u : List UInt8} (h : u.all isD = true) (c : UInt8) (hc : isD c = false) : ∀ x ∈ u, x ≠ c := by
 intro x hx e
 subst e
 rw [List.all_eq_true.1 h x hx] at hc
 cases hc
theorem zj6 {n : Int} (c : UInt8) (hc : isD c = false) : ∀ x ∈ zcu n, x ≠ c := yr8 (yjy n.toNat).1 c hc
def zq9 (x : Pl) : List UInt8 := zcu x.a ++ 46 :: (zcu x.b ++ 46 :: (zcu x.c ++ 46 :: zcu x.d))
theorem ykh (x : Pl) : plT x = zq9 x ++ 58 :: zcu x.p := by simp [plT, zq9]
theorem ymn (x : Pl) : ∀ y ∈ zq9 x, y ≠ 58 := by
 have hd : isD 58 = false := by decide
 intro y hy
 simp only [zq9, List.mem_append, List.mem_cons] at hy
 rcases hy with h | rfl | h | rfl | h | rfl | h
 · exact zj6 58 hd y h
 · decide
 · exact zj6 58 hd y h
 · decide
 · exact zj6 58 hd y h
 · decide
 · exact zj6 58 hd y h
theorem zxt (x : Pl) : zac (zq9 x) [46] = [zcu x.a, zcu x.b, zcu x.c, zcu x.d] := by
 have hd : isD 46 = false := by decide
 show zav 46 (zq9 x) = _
 rw [zq9, zg7 (zj6 46 hd), zg7 (zj6 46 hd), zg7 (zj6 46 hd), zw5 (zj6 46 hd)]
theorem yf3 {n : Int} (h : 0 <= n /\ n <= 255) : zjv n := ⟨h.1, by omega⟩
theorem yko {x : Pl} (h : zyp x) : (1 <= x.p -> spE (plT x) = 0 /\ spP (plT x) = x) /\ (x.p = 0 -> spE (plT x) = 4) := by
 obtain ⟨c1, c2, c3⟩ := yns (u := zq9 x) (v := zcu x.p) (ymn x)
 rw [<- ykh] at c1 c2 c3
 obtain ⟨ha, hb, hc, hd, hp⟩ := h
 have hh : zo9 (plT x) = [zcu x.a, zcu x.b, zcu x.c, zcu x.d] := by rw [zo9, c1, zxt]
 have na := zeq (yf3 ha)
 have nb := zeq (yf3 hb)
 have nc := zeq (yf3 hc)
 have nd := zeq (yf3 hd)
 have np := zeq (n := x.p) ⟨hp.1, by omega⟩
 have hport : zru (plT x) = zcu x.p := c2
 have v0 : zlr (plT x) 0 = x.a := by rw [zlr, hh]; exact na.2
 have v1 : zlr (plT x) 1 = x.b := by rw [zlr, hh]; exact nb.2
 have v2 : zlr (plT x) 2 = x.c := by rw [zlr, hh]; exact nc.2
 have v3 : zlr (plT x) 3 = x.d := by rw [zlr, hh]; exact nd.2
 have e0 : yep (plT x) 0 = 0 := by rw [yep, hh]; exact na.1
 have e1 : yep (plT x) 1 = 0 := by rw [yep, hh]; exact nb.1
 have e2 : yep (plT x) 2 = 0 := by rw [yep, hh]; exact nc.1
 have e3 : yep (plT x) 3 = 0 := by rw [yep, hh]; exact nd.1
 refine ⟨fun h1 => ?_, fun h0 => if_neg fun hk => ?_⟩
 · have hok : yt6 (plT x) := by
     refine ⟨c3, by rw [hh]; rfl, fun k hk => ?_, by rw [hport]; exact np.1, by rw [hport, np.2]; exact h1, by rw [hport, np.2]; exact hp.2⟩
     match k, hk with
     | 0, _ => exact ⟨e0, by rw [v0]; exact ha.2⟩
     | 1, _ => exact ⟨e1, by rw [v1]; exact hb.2⟩
     | 2, _ => exact ⟨e2, by rw [v2]; exact hc.2⟩
     | 3, _ => exact ⟨e3, by rw [v3]; exact hd.2⟩
   have hE : spE (plT x) = 0 := if_pos hok
   refine ⟨hE, ?_⟩
   rw [spP, if_pos hE, v0, v1, v2, v3, hport, np.2]
 · have := hk.2.2.2.2.1
   rw [hport, np.2, h0] at this
   omega
end Sy
end Go.Proofs.YtogpolfhcbgcbaaGreatDoor
namespace Go.Proofs.YtogpolfhcbgcbaaGreatDoor
namespace Sy
open Go Go.RowKit
set_option maxRecDepth 100000
set_option linter.unusedSimpArgs false
set_option linter.unusedVariables false
theorem ziw : ∀ l : List CV, zdh l = true ↔ ∀ i, i < l.length -> zfg (zdl l i) = true
 | [] => by rw [zdh]; simp
 | v :: l => by
   rw [zdh, Bool.and_eq_true, ziw l]
   refine ⟨fun ⟨h1, h2⟩ i hi => ?_, fun h => ⟨h 0 (by simp), fun i hi => h (i + 1) (by simpa using hi)⟩⟩
   cases i with
   | zero => exact h1
   | succ i => exact h2 i (by simpa using hi)
def yha (l : List CV) : Int := if zdh l = true then -1 else (l.findIdx fun v => !zfg v : Nat)
def ysu (l : List CV) (i : Nat) : Prop := i <= l.length /\ ∀ j, j < i -> zfg (zdl l j) = true
theorem ymi {l : List CV} {i : Nat} (hi : i < l.length) (h : ∀ j, j < i -> zfg (zdl l j) = true) (hn : zfg (zdl l i) = false) : yha l = (i : Int) := by
 have hb : ¬ zdh l = true := by
   rw [ziw]
   intro h2
   have := h2 i hi
   rw [hn] at this; cases this
 rw [yha, if_neg hb]
 congr 1
 rw [List.findIdx_eq hi]
 have get : ∀ (j : Nat) (hj : j < l.length), l[j] = zdl l j := by
   intro j hj
   rw [zdl, List.getD_eq_getElem?_getD, List.getElem?_eq_getElem hj]; rfl
 refine ⟨by rw [get i hi, hn]; rfl, fun j hj => ?_⟩
 have hj' := h j hj
 rw [get j (by omega), hj']; rfl
theorem yh9 {l : List CV} (h : ∀ j, j < l.length -> zfg (zdl l j) = true) : yha l = -1 := by rw [yha, if_pos ((ziw l).2 h)]
theorem ymh (l : List CV) : (0 <= yha l) = (zdh l = false) := by
 unfold yha
 split
 · rename_i h; rw [h]; simp
 · rename_i h; simp at h; rw [h]; simp
def ytn (N : Nat) (L : za7) : zbh := (134, fun xs => match xs with
 | [.agg [.int .i64 k, .int .u64 n, .str s, x]] => some (L okL x /\ L2 L zp2 N (mkV L k n s x), .bool (L not (L zfg (mkV L k n s x))))
 | _ => none)
def yti (N : Nat) (L : za7) : zbh := (145, fun xs => match xs with
 | [x, .fn 134 [] []] => some (L okL x /\ L2 L zra N (L rdL x), .int .i64 (L yha (L rdL x)))
 | _ => none)
def yvf (N : Nat) (L : za7) : zbh := (133, fun xs => match xs with
 | [x, .fn 134 [] []] => some (L okL x /\ L2 L zra N (L rdL x), .bool (L not (L zdh (L rdL x))))
 | _ => none)
def zn5 (N : Nat) (L : za7) : zbh := (110, fun xs => match xs with
 | [.agg [.int .i64 k, .int .u64 n, .str s, x]] => some (L okL x /\ L2 L zp2 N (mkV L k n s x), .bool (L zfg (mkV L k n s x)))
 | _ => none)
theorem yuq (l : List CV) : ieq ((lenL l : Nat) : Int) 0 = l.isEmpty := by
 cases l with
 | nil => rfl
 | cons v l =>
   simp [lenL, ieq]
   omega
theorem yrc (a b : Int) : (ile a b = false) = ¬ a <= b := by simp [ile]
theorem yvr {N : Nat} (ih : zaz Tryz.prog (zn5 N std)) : zaz Tryz.prog (ytn N std) := by
 intro xs p r h hp
 unfold ytn at h
 simp only at h
 split at h
 rotate_left
 · cases h
 rename_i k n s x
 cases h
 obtain ⟨ho, hz⟩ := hp
 refine yto ho ?_
 rw [show mkV std k n s x = .mk k n s (rdL x) from rfl] at hz |-
 generalize rdL x = l at hz |-
 have hz : zp2 N (.mk k n s l) := hz
 refine za6 (xs := fun L => [.agg [.int .i64 k, .int .u64 n, .str s, cvL L l]]) (T := tt) (S := fun L => zak [zn5 N L]) (lo := noA) (lb := noA) 5 (fn := Tryz.f134) rfl rfl (by kernel_rfl) (by kernel_rfl) rfl zaa (za2 ⟨ih, trivial⟩) (by kernel_rfl) ?_
 intro L P' Q' hL hP hQ
 (cbv; try simp only [syT, true_and, and_true])
 (subst hL; subst hQ; simp only [L2, L3, std] at *; try simp only [syS, reduceCtorEq, Int.reduceToNat, Int.reduceAdd, Int.reduceSub] at *)
 rw [rdl, mkl]
 exact ⟨⟨okl l, hz⟩, rfl⟩
def ifA (L : za7) (l : List CV) : Nat -> St -> Option Ann := fun id s => match id with
 | 0 => some ⟨Nat, fun i => [(8, .int .i64 (L zaq i))], fun i => [], [0, 1, 6, 7], [],
     fun i => L2 L ysu l i, fun i => L2 L (fun (l : List CV) (i : Nat) => l.length - i) l i⟩
 | _ => none
theorem yux {N : Nat} (ih : zaz Tryz.prog (ytn N std)) : zaz Tryz.prog (yti N std) := by
 intro xs p r h hp
 unfold yti at h
 simp only at h
 split at h
 rotate_left
 · cases h
 rename_i x
 cases h
 obtain ⟨ho, hz⟩ := hp
 refine ytp ho ?_
 have hz : zra N (rdL x) := hz
 show za9 _ _ _ (.int .i64 (yha (rdL x)))
 generalize rdL x = l at hz |-
 refine za6 (T := tt) (S := fun L => zak [ytn N L]) (lo := fun L => ifA L l) (lb := noA) 5 (fn := Tryz.f145) (xs := fun L => [cvL L l, .fn 134 [] []]) rfl rfl (by kernel_rfl) (by kernel_rfl) rfl zaa
   (za2 ⟨ih, trivial⟩) (by kernel_rfl) ?_
 intro L P' Q' hL hP hQ
 (cbv; try simp only [syT, true_and, and_true])
 refine ⟨⟨0, ?_⟩, fun i hi => ?_⟩
 · (cbv; try simp only [syT, true_and, and_true])
   (subst hL; subst hQ; simp only [L2, L3, std] at *; try simp only [syS, reduceCtorEq, Int.reduceToNat, Int.reduceAdd, Int.reduceSub] at *)
   exact ⟨Nat.zero_le _, fun j hj => by omega⟩
 · cbv at hi
   (cbv; try simp only [syT, true_and, and_true])
   refine ⟨fun hlt => ⟨?_, ⟨?_, ?_⟩, fun hb => ?_, fun hb => ⟨i + 1, ?_⟩⟩, fun hge => ?_⟩
   · (subst hL; subst hQ; simp only [L2, L3, std] at *; try simp only [syS, reduceCtorEq, Int.reduceToNat, Int.reduceAdd, Int.reduceSub] at *)
     omega
   · (subst hL; subst hQ; simp only [L2, L3, std] at *; try simp only [syS, reduceCtorEq, Int.reduceToNat, Int.reduceAdd, Int.reduceSub] at *)
     exact (zk7 _).2
   · (subst hL; subst hQ; simp only [L2, L3, std] at *; try simp only [syS, reduceCtorEq, Int.reduceToNat, Int.reduceAdd, Int.reduceSub] at *)
     rw [zdm]
     exact zug hz (by have : lenL l = l.length := rfl; omega)
   · (subst hL; subst hQ; simp only [L2, L3, std] at *; try simp only [syS, reduceCtorEq, Int.reduceToNat, Int.reduceAdd, Int.reduceSub] at *)
     rw [zbz] at hb
     exact (ymi (by have : lenL l = l.length := rfl; omega) hi.2 hb).symm
   · (cbv; try simp only [syT, true_and, and_true])
     (subst hL; subst hQ; simp only [L2, L3, std] at *; try simp only [syS, reduceCtorEq, Int.reduceToNat, Int.reduceAdd, Int.reduceSub] at *)
     rw [zbz] at hb
     have : lenL l = l.length := rfl
     have := zml l
     have h1 := hz.1
     have h2 := hz.2
     refine ⟨by omega, ⟨by omega, fun j hj => ?_⟩, by omega⟩
     by_cases e : j = i
     · rw [e]; exact hb
     · exact hi.2 j (by omega)
   · (subst hL; subst hQ; simp only [L2, L3, std] at *; try simp only [syS, reduceCtorEq, Int.reduceToNat, Int.reduceAdd, Int.reduceSub] at *)
     have : lenL l = l.length := rfl
     exact (yh9 fun j hj => hi.2 j (by omega)).symm
theorem yvg {N : Nat} (ih : zaz Tryz.prog (yti N std)) : zaz Tryz.prog (yvf N std) := by
 intro xs p r h hp
 unfold yvf at h
 simp only at h
 split at h
 rotate_left
 · cases h
 rename_i x
 cases h
 obtain ⟨ho, hz⟩ := hp
 refine ytp ho ?_
 have hz : zra N (rdL x) := hz
 show za9 _ _ _ (.bool (not (zdh (rdL x))))
 generalize rdL x = l at hz |-
 refine za6 (xs := fun L => [cvL L l, .fn 134 [] []]) (T := tt) (S := fun L => zak [yti N L]) (lo := noA) (lb := noA) 5 (fn := Tryz.f133) rfl rfl (by kernel_rfl) (by kernel_rfl) rfl zaa (za2 ⟨ih, trivial⟩) (by kernel_rfl) ?_
 intro L P' Q' hL hP hQ
 (cbv; try simp only [syT, true_and, and_true])
 (subst hL; subst hQ; simp only [L2, L3, std] at *; try simp only [syS, reduceCtorEq, Int.reduceToNat, Int.reduceAdd, Int.reduceSub] at *)
 rw [rdl]
 refine ⟨⟨okl l, hz⟩, ?_⟩
 have := ymh l
 cases hb : zdh l with
 | true =>
   rw [hb] at this
   simp only [Bool.true_eq_false, eq_iff_iff, iff_false] at this
   have h : ile 0 (yha l) = false := by rw [yrc]; exact this
   rw [h]; rfl
 | false =>
   rw [hb] at this
   simp only [eq_iff_iff, iff_true] at this
   simpa [ile] using this
theorem yec : ∀ N, zaz Tryz.prog (zn5 N std) := by
 intro N
 induction N with
 | zero =>
   intro xs p r h hp
   unfold zn5 at h
   simp only at h
   split at h
   · rename_i k n s x
     cases h
     have h1 : sizeC (mkV std k n s x) <= 0 := hp.2.1
     have := zem (mkV std k n s x)
     omega
   · cases h
 | succ N ih =>
   intro xs p r h hp
   unfold zn5 at h
   simp only at h
   split at h
   rotate_left
   · cases h
   rename_i k n s x
   cases h
   obtain ⟨ho, hz⟩ := hp
   refine yto ho ?_
   rw [show mkV std k n s x = .mk k n s (rdL x) from rfl] at hz |-
   generalize rdL x = l at hz |-
   have hz : zp2 (N + 1) (.mk k n s l) := hz
   refine za6 (T := tt) (S := fun L => zak [yvf N L]) (lo := noA) (lb := noA) 5 (fn := Tryz.f110) (xs := fun L => [.agg [.int .i64 k, .int .u64 n, .str s, cvL L l]]) rfl rfl (by kernel_rfl) (by kernel_rfl) rfl zaa
     (za2 ⟨yvg (yux (yvr ih)), trivial⟩) (by kernel_rfl) ?_
   intro L P' Q' hL hP hQ
   (cbv; try simp only [syT, true_and, and_true])
   (subst hL; subst hQ; simp only [L2, L3, std] at *; try simp only [syS, reduceCtorEq, Int.reduceToNat, Int.reduceAdd, Int.reduceSub] at *)
   simp only [rdl, yuq]
   rw [zcf] at hz
   rw [zfg]
   by_cases h1 : k = 1
   · simp [h1]
     exact ⟨fun a _ => a, fun a b => absurd b a⟩
   · by_cases h2 : k = 2
     · simp [h2]
       exact ⟨fun a _ => a, fun a b => absurd b a⟩
     · by_cases h3 : k = 3
       · simp [h3]
         refine ⟨fun h4 => ⟨fun h5 => ⟨⟨okl l, hz.1⟩, by simp [h4, h5]⟩, fun h5 => by simp [h5]⟩, fun h4 => by simp [h4]⟩
       · simp [h1, h2, h3]
end Sy
end Go.Proofs.YtogpolfhcbgcbaaGreatDoor
namespace Go.Proofs.YtogpolfhcbgcbaaGreatDoor
namespace Sy
open Go Go.RowKit
set_option maxRecDepth 100000
set_option linter.unusedSimpArgs false
set_option linter.unusedVariables false
end Sy
end Go.Proofs.YtogpolfhcbgcbaaGreatDoor
namespace Go.Proofs.YtogpolfhcbgcbaaGreatDoor
namespace Sy
open Go Go.RowKit
set_option maxRecDepth 100000
set_option linter.unusedSimpArgs false
set_option linter.unusedVariables false
theorem zm5 : ∀ (k n : Nat), n < 128 ^ (k + 1) -> (zdf n).length <= k + 1
 | 0, n, h => by rw [zbe (by omega)]; simp
 | k + 1, n, h => by
   by_cases h1 : n < 128
   · rw [zbe h1]; simp
   · rw [zg8 (by omega), List.length_cons]
     have := zm5 k (n / 128) (by rw [Nat.div_lt_iff_lt_mul (by omega)]; rw [Nat.pow_succ] at h; exact h)
     omega
theorem zic {n : Int} (h : zcq n) : (zb5 n).length <= 10 := zm5 9 n.toNat (by
 have := h.2
 have := h.1
 rw [show (128 : Nat) ^ (9 + 1) = 1180591620717411303424 from by decide]
 omega)
def cb (s : List UInt8) (i : Nat) : Nat := (s.getD i 0).toNat
def lng (s : List UInt8) : Nat -> Nat -> Nat -> Nat × Nat × Nat
 | 0, _, _ => (0, 0, 4)
 | f + 1, i, n =>
   if s.length <= i then (0, 0, 3)
   else if i = 9 /\ 1 < cb s i then (0, 0, 4)
   else if 128 <= cb s i then lng s f (i + 1) (n + cb s i % 128 * 2 ^ (7 * i))
   else if 0 < cb s i \/ i = 0 then (n + cb s i % 128 * 2 ^ (7 * i), i + 1, 0)
   else (0, 0, 4)
def ym1 (s : List UInt8) : Int := (lng s 10 0 0).1
def yuo (s : List UInt8) : Int := (lng s 10 0 0).2.1
def ytg (s : List UInt8) : Int := (lng s 10 0 0).2.2
theorem ysm (p : List UInt8) (c : UInt8) (r : List UInt8) : cb (p ++ c :: r) p.length = c.toNat := by
 unfold cb
 rw [List.getD_eq_getElem?_getD, List.getElem?_append_right (Nat.le_refl _), Nat.sub_self]
 rfl
theorem zpt (r : List UInt8) : ∀ (f m n0 : Nat) (p : List UInt8), f + p.length = 10 -> m * 2 ^ (7 * p.length) < 2 ^ 64 -> (0 < m \/ p.length = 0) ->
   lng (p ++ (zdf m ++ r)) f p.length n0 = (n0 + m * 2 ^ (7 * p.length), p.length + (zdf m).length, 0)
 | 0, m, n0, p, hf, hm, h0 => by
   have : p.length = 10 := by omega
   rw [this] at hm h0
   have : 2 ^ (7 * 10) <= m * 2 ^ (7 * 10) := Nat.le_mul_of_pos_left _ (by omega)
   omega
 | f + 1, m, n0, p, hf, hm, h0 => by
   by_cases hb : 128 <= m
   · rw [zg8 hb]
     have hc : cb (p ++ (UInt8.ofNat (m % 128 + 128) :: zdf (m / 128) ++ r)) p.length = m % 128 + 128 := by
       rw [List.cons_append, ysm]
       simp; omega
     have h9 : p.length ≠ 9 := by
       intro h
       rw [h] at hm
       have : 128 * 2 ^ (7 * 9) <= m * 2 ^ (7 * 9) := Nat.mul_le_mul_right _ hb
       omega
     rw [lng, if_neg (by simp), hc, if_neg (by omega), if_pos (by omega)]
     have e : p ++ (UInt8.ofNat (m % 128 + 128) :: zdf (m / 128) ++ r) = (p ++ [UInt8.ofNat (m % 128 + 128)]) ++ (zdf (m / 128) ++ r) := by simp
     have hl : (p ++ [UInt8.ofNat (m % 128 + 128)]).length = p.length + 1 := by simp
     have hp : 2 ^ (7 * (p.length + 1)) = 128 * 2 ^ (7 * p.length) := by rw [show 7 * (p.length + 1) = 7 + 7 * p.length by omega, Nat.pow_add]
     have hd : m / 128 * (128 * 2 ^ (7 * p.length)) + m % 128 * 2 ^ (7 * p.length) = m * 2 ^ (7 * p.length) := by
       rw [<- Nat.mul_assoc, <- Nat.add_mul]
       congr 1; omega
     have ih := zpt r f (m / 128) (n0 + (m % 128 + 128) % 128 * 2 ^ (7 * p.length)) (p ++ [UInt8.ofNat (m % 128 + 128)]) (by rw [hl]; omega) (by rw [hl, hp]; omega) (.inl (by omega))
     rw [hl] at ih
     rw [e, ih, hp, List.length_cons, show (m % 128 + 128) % 128 = m % 128 by omega]
     refine Prod.ext ?_ (Prod.ext ?_ rfl)
     · show n0 + m % 128 * 2 ^ (7 * p.length) + m / 128 * (128 * 2 ^ (7 * p.length)) = n0 + m * 2 ^ (7 * p.length)
       omega
     · show p.length + 1 + _ = p.length + (_ + 1)
       omega
   · rw [zbe (by omega)]
     have hc : cb (p ++ ([UInt8.ofNat m] ++ r)) p.length = m := by
       rw [List.singleton_append, ysm]
       simp; omega
     have h9 : ¬ (p.length = 9 /\ 1 < m) := by
       rintro ⟨h, h1⟩
       rw [h] at hm
       have : 2 * 2 ^ (7 * 9) <= m * 2 ^ (7 * 9) := Nat.mul_le_mul_right _ h1
       omega
     rw [lng, if_neg (by simp), hc, if_neg h9, if_neg (by omega), if_pos h0, Nat.mod_eq_of_lt (by omega)]
     rfl
theorem yr1 {m : Int} (h : zcq m) (r : List UInt8) : ym1 (zb5 m ++ r) = m /\ yuo (zb5 m ++ r) = ((zb5 m).length : Int) /\ ytg (zb5 m ++ r) = 0 := by
 have h0 := h.1
 have h1 := h.2
 have := zpt r 10 m.toNat 0 [] rfl (by simp; omega) (.inr rfl)
 simp only [List.nil_append, List.length_nil, Nat.zero_add, Nat.mul_zero, Nat.pow_zero, Nat.mul_one] at this
 unfold ym1 yuo ytg zb5
 rw [this]
 refine ⟨?_, rfl, rfl⟩
 show ((m.toNat : Nat) : Int) = m
 omega
end Sy
end Go.Proofs.YtogpolfhcbgcbaaGreatDoor
namespace Go.Proofs.YtogpolfhcbgcbaaGreatDoor
namespace Sy
open Go Go.RowKit
set_option maxRecDepth 100000
set_option linter.unusedSimpArgs false
set_option linter.unusedVariables false
mutual
def wfV : CV -> Prop
 | .mk _ n s l => zcq n /\ s.length <= 9223372036854775807 /\ ztl l
def ztl : List CV -> Prop
 | [] => True
 | v :: l => wfV v /\ ztl l
end
theorem yiu : ∀ {l : List CV} {i : Nat}, ztl l -> i < l.length -> wfV (zdl l i)
 | [], i, _, h => by simp at h
 | v :: l, 0, w, _ => by rw [ztl] at w; exact w.1
 | v :: l, i + 1, w, h => by rw [ztl] at w; exact yiu (l := l) w.2 (by simpa using h)
theorem zi8 (l : List CV) : ∀ i, (zgn l i).length <= (zax l).length := by
 intro i
 have := zi9 (l.take i) (l.drop i)
 rw [List.take_append_drop] at this
 rw [this, List.length_append, zgn]; omega
theorem zaj (k n : Int) (s : List UInt8) (l : List CV) : zbu (.mk k n s l) = zg3 k ++ if k = 1 then zb5 n else if k = 2 then zb5 s.length ++ s else zb5 l.length ++ zax l := by rw [zbu]
def zzc (v : CV) : Prop := wfV v /\ (zbu v).length <= 90000000
theorem zz2 {k n : Int} {s : List UInt8} {l : List CV} : zzc (.mk k n s l) = ((zcq n /\ s.length <= 9223372036854775807 /\ ztl l) /\ (zbu (.mk k n s l)).length <= 90000000) := by
 unfold zzc; rw [wfV]
theorem zh5 {x : Int} (h : 0 <= x) (h1 : x < 18446744073709551616) : x % 18446744073709551616 = x := Int.emod_eq_of_lt h h1
theorem zi6 {k n : Int} {s : List UInt8} {l : List CV} (h : wfV (.mk k n s l)) : (s.length : Int) % 18446744073709551616 = s.length := by
 rw [wfV] at h
 exact zh5 (by omega) (by omega)
theorem zlc {N : Nat} {k n : Int} {s : List UInt8} {l : List CV} (h : zp2 (N + 1) (.mk k n s l)) : zcq ((l.length : Nat) : Int) := by
 rw [zcf] at h
 have := zml l
 have h1 := h.1.1
 have h2 := h.1.2
 exact ⟨by omega, by omega⟩
theorem zi7 {N : Nat} {k n : Int} {s : List UInt8} {l : List CV} (h : zp2 (N + 1) (.mk k n s l)) : ((lenL l : Nat) : Int) % 18446744073709551616 = ((l.length : Nat) : Int) := by
 have := zlc h
 exact zh5 this.1 this.2
theorem yiv {k n : Int} {s : List UInt8} {l : List CV} (h : zzc (.mk k n s l)) (h1 : k ≠ 1) (h2 : k ≠ 2) {i : Nat} (hi : i < l.length) : zzc (zdl l i) := by
 rw [zz2] at h
 refine ⟨yiu h.1.2.2 hi, ?_⟩
 have h3 := h.2
 have h4 := zdv hi
 have h5 := zi8 l (i + 1)
 rw [h4, List.length_append] at h5
 rw [zaj, if_neg h1, if_neg h2] at h3
 simp only [List.length_append] at h3
 omega
def znl (b : List UInt8) (k : Int) (l : List CV) (i : Nat) : List UInt8 := b ++ zg3 k ++ zb5 l.length ++ zgn l i
def putA (L : za7) (b : List UInt8) (k : Int) (l : List CV) : Nat -> St -> Option Ann := fun id s => match id with
 | 1 => some ⟨Nat, fun i => [(23, .int .i64 (L zaq i))], fun i => [(500000, .box 137 [.ref 500000 0, .sl 901 1 0 (L lenN (L (L3 L znl b k l) i))]), (901, .row 5 1 (L lenN (L (L3 L znl b k l) i)) (fun j _ => .int .u8 (L2 L za8 (L (L3 L znl b k l) i) j)))], [0, 21, 22], [],
     fun i => L2 L (fun (l : List CV) i => i <= l.length) l i, fun i => L2 L (fun (l : List CV) (i : Nat) => l.length - i) l i⟩
 | _ => none
def zpe (N : Nat) (L : za7) : zoz := (112, fun raw ob => match raw with
 | [.ref id 0, .agg [.int .i64 k, .int .u64 n, .str s, x]] => match ye9 L ob id with
   | some none => some ⟨[.ref 500000 0, .agg [.int .i64 k, .int .u64 n, .str s, x]], yp7, L okL x /\ L2 L zp2 N (mkV L k n s x) /\ L zzc (mkV L k n s x), .tup [], ztd L (L zbu (mkV L k n s x))⟩
   | some (some l) => some ⟨[.ref 500000 0, .agg [.int .i64 k, .int .u64 n, .str s, x]], bld L l, L okL x /\ L2 L zp2 N (mkV L k n s x) /\ L zzc (mkV L k n s x) /\ L2 L zf4 l (L zbu (mkV L k n s x)), .tup [], ztd L (L2 L zab l (L zbu (mkV L k n s x)))⟩
   | none => none
 | _ => none)
theorem ypx {b : List UInt8} {k n : Int} {s : List UInt8} {l : List CV} (h : zf4 b (zbu (.mk k n s l))) : zf4 b (zc6 (k % 256)) := by
 rw [zaj] at h
 unfold zf4 at h |-
 have : (zg3 k).length = 1 := rfl
 have : (zc6 (k % 256)).length = 1 := rfl
 rw [List.length_append] at h
 omega
theorem ztu {b q : List UInt8} {k : Int} (h : zf4 b (zg3 k ++ q)) : zf4 (zab b (zc6 (k % 256))) q := by
 unfold zf4 zab at *
 have : (zg3 k).length = 1 := rfl
 have : (zc6 (k % 256)).length = 1 := rfl
 rw [List.length_append] at h |-
 omega
theorem yj4 {b q r : List UInt8} {k : Int} (h : zf4 b (zg3 k ++ (q ++ r))) : zf4 (zab b (zc6 (k % 256))) q := by
 unfold zf4 zab at *
 have : (zg3 k).length = 1 := rfl
 have : (zc6 (k % 256)).length = 1 := rfl
 rw [List.length_append, List.length_append] at h
 rw [List.length_append]
 omega
theorem zts {x y : List UInt8} (h : x = y) : (lenN x = lenN y /\ ∀ i j : Nat, i < lenN y -> j < 1 -> AV.int .u8 (za8 x i) = AV.int .u8 (za8 y i)) /\ lenN x = lenN y := by
 subst h; exact ⟨⟨rfl, fun _ _ _ _ => rfl⟩, rfl⟩
theorem yiz {b q t : List UInt8} {k : Int} (h : t = zg3 k ++ q) : (lenN (zab (zab b (zc6 (k % 256))) q) = lenN (zab b t) /\ ∀ i j : Nat, i < lenN (zab b t) -> j < 1 -> AV.int .u8 (za8 (zab (zab b (zc6 (k % 256))) q) i) = AV.int .u8 (za8 (zab b t) i)) /\ lenN (zab (zab b (zc6 (k % 256))) q) = lenN (zab b t) :=
 zts (by rw [h]; unfold zab; rw [List.append_assoc]; rfl)
theorem yj0 {q t : List UInt8} {k : Int} (h : t = zg3 k ++ q) : (lenN (zab (zc6 (k % 256)) q) = lenN t /\ ∀ i j : Nat, i < lenN t -> j < 1 -> AV.int .u8 (za8 (zab (zc6 (k % 256)) q) i) = AV.int .u8 (za8 t i)) /\ lenN (zab (zc6 (k % 256)) q) = lenN t :=
 zts (by rw [h]; rfl)
theorem ylb {N : Nat} (ih : zgm Tryz.prog (zpe N std)) (b : List UInt8) (k n : Int) (s : List UInt8) (l : List CV) (hz : zp2 (N + 1) (.mk k n s l)) (hw : zzc (.mk k n s l)) (hb : zf4 b (zbu (.mk k n s l))) :
   zbf Tryz.prog 112 [.ref 500000 0, .agg [.int .i64 k, .int .u64 n, .str s, cvL std l]] (bld std b) (.tup []) (ztd std (zab b (zbu (.mk k n s l)))) := by
 refine zbi (T := tt) (S := fun L => zcv [zk1 L] [yt5 L, yt4 L, zpe N L]) (lo := fun L => putA L b k l) (lb := noA) 5 (fn := Tryz.f112) (xs := fun L => [.ref 500000 0, .agg [.int .i64 k, .int .u64 n, .str s, cvL L l]]) (rts := fun _ => []) (O := fun L => bld L b) (O1 := fun L => ztd L (L2 L zab b (L zbu (.mk k n s l))))
   rfl rfl (by kernel_rfl) (by kernel_rfl) (by kernel_rfl) zaa (zb1 ⟨zib, trivial⟩ ⟨zz3, zyx, ih, trivial⟩) (by kernel_rfl) ?_
 intro L P' Q' hL hP hQ
 have hB : ∀ b : List UInt8, L (L zbd (L lenN b)) (fun i => (AV.int .u8 (L2 L za8 b i)).toI) = b := by subst hL; exact zgj
 (cbv; try simp only [syT, true_and, and_true])
 simp only [hB]
 refine ⟨⟨trivial, fun _ _ _ _ => trivial⟩, trivial, ⟨?_, ?_⟩, fun h1 => ⟨?_, ⟨trivial, fun _ _ _ _ => trivial⟩, trivial, ?_, ?_⟩, fun h1 => ⟨fun h2 => ⟨?_, ?_, ⟨trivial, fun _ _ _ _ => trivial⟩, trivial, ?_, ?_⟩, fun h2 => ⟨?_, ⟨trivial, fun _ _ _ _ => trivial⟩, trivial, ?_, ⟨0, ?_⟩, fun i hi => ?_⟩⟩⟩
 · (subst hL; subst hQ; simp only [L2, L3, std] at *; try simp only [syS, reduceCtorEq, Int.reduceToNat, Int.reduceAdd, Int.reduceSub] at *)
   exact ⟨Int.emod_nonneg _ (by omega), Int.emod_lt_of_pos _ (by omega)⟩
 · (subst hL; subst hQ; simp only [L2, L3, std] at *; try simp only [syS, reduceCtorEq, Int.reduceToNat, Int.reduceAdd, Int.reduceSub] at *)
   exact ypx hb
 · (subst hL; subst hQ; simp only [L2, L3, std] at *; try simp only [syS, reduceCtorEq, Int.reduceToNat, Int.reduceAdd, Int.reduceSub] at *)
   rw [zz2] at hw
   exact hw.1.1
 · (subst hL; subst hQ; simp only [L2, L3, std] at *; try simp only [syS, reduceCtorEq, Int.reduceToNat, Int.reduceAdd, Int.reduceSub] at *)
   rw [zaj, if_pos h1] at hb
   exact ztu hb
 · (subst hL; subst hQ; simp only [L2, L3, std] at *; try simp only [syS, reduceCtorEq, Int.reduceToNat, Int.reduceAdd, Int.reduceSub] at *)
   exact yiz (by rw [zaj, if_pos h1])
 · (subst hL; subst hQ; simp only [L2, L3, std] at *; try simp only [syS, reduceCtorEq, Int.reduceToNat, Int.reduceAdd, Int.reduceSub] at *)
   rw [zz2] at hw
   rw [zh5 (by omega) (by omega)]
   exact ⟨by omega, by omega⟩
 · (subst hL; subst hQ; simp only [L2, L3, std] at *; try simp only [syS, reduceCtorEq, Int.reduceToNat, Int.reduceAdd, Int.reduceSub] at *)
   rw [zi6 hw.1]
   have h3 := hw.2
   rw [zaj, if_neg h1, if_pos h2] at h3
   simp at h3 |-
   omega
 · (subst hL; subst hQ; simp only [L2, L3, std] at *; try simp only [syS, reduceCtorEq, Int.reduceToNat, Int.reduceAdd, Int.reduceSub] at *)
   rw [zi6 hw.1]
   rw [zaj, if_neg h1, if_pos h2] at hb
   exact ztu hb
 · (subst hL; subst hQ; simp only [L2, L3, std] at *; try simp only [syS, reduceCtorEq, Int.reduceToNat, Int.reduceAdd, Int.reduceSub] at *)
   rw [zi6 hw.1]
   exact yiz (by rw [zaj, if_neg h1, if_pos h2])
 · (subst hL; subst hQ; simp only [L2, L3, std] at *; try simp only [syS, reduceCtorEq, Int.reduceToNat, Int.reduceAdd, Int.reduceSub] at *)
   rw [zi7 hz]
   exact zlc hz
 · (subst hL; subst hQ; simp only [L2, L3, std] at *; try simp only [syS, reduceCtorEq, Int.reduceToNat, Int.reduceAdd, Int.reduceSub] at *)
   rw [zi7 hz]
   rw [zaj, if_neg h1, if_neg h2] at hb
   exact yj4 hb
 · (cbv; try simp only [syT, true_and, and_true])
   (subst hL; subst hQ; simp only [L2, L3, std] at *; try simp only [syS, reduceCtorEq, Int.reduceToNat, Int.reduceAdd, Int.reduceSub] at *)
   rw [zi7 hz]
   have e : zab (zab b (zc6 (k % 256))) (zb5 ((l.length : Nat) : Int)) = znl b k l 0 := by
     rw [znl, zgn, List.take_zero, zax, List.append_nil]; rfl
   rw [e]
   exact ⟨⟨rfl, fun _ _ _ _ => rfl⟩, rfl, Nat.zero_le _⟩
 · cbv at hi
   (cbv; try simp only [syT, true_and, and_true])
   simp only [hB]
   refine ⟨fun hlt => ⟨?_, ⟨trivial, fun _ _ _ _ => trivial⟩, trivial, fun _ _ _ _ => trivial, ⟨?_, ?_, ?_, ?_⟩, ⟨i + 1, ?_⟩⟩, fun hge => ?_⟩
   · (subst hL; subst hQ; simp only [L2, L3, std] at *; try simp only [syS, reduceCtorEq, Int.reduceToNat, Int.reduceAdd, Int.reduceSub] at *)
     omega
   · (subst hL; subst hQ; simp only [L2, L3, std] at *; try simp only [syS, reduceCtorEq, Int.reduceToNat, Int.reduceAdd, Int.reduceSub] at *)
     exact (zk7 _).2
   · (subst hL; subst hQ; simp only [L2, L3, std] at *; try simp only [syS, reduceCtorEq, Int.reduceToNat, Int.reduceAdd, Int.reduceSub] at *)
     rw [zdm]
     rw [zcf] at hz
     exact zug hz.1 (by have : lenL l = l.length := rfl; omega)
   · (subst hL; subst hQ; simp only [L2, L3, std] at *; try simp only [syS, reduceCtorEq, Int.reduceToNat, Int.reduceAdd, Int.reduceSub] at *)
     rw [zbz]
     exact yiv hw (by omega) (by omega) (by have : lenL l = l.length := rfl; omega)
   · (subst hL; subst hQ; simp only [L2, L3, std] at *; try simp only [syS, reduceCtorEq, Int.reduceToNat, Int.reduceAdd, Int.reduceSub] at *)
     rw [zbz]
     have h4 := zdv (l := l) (i := i) (by have : lenL l = l.length := rfl; omega)
     have h5 := zi8 l (i + 1)
     rw [h4, List.length_append] at h5
     rw [zaj, if_neg h1, if_neg h2] at hb
     unfold zf4 at hb |-
     simp only [List.length_append, znl] at hb |-
     omega
   · (cbv; try simp only [syT, true_and, and_true])
     (subst hL; subst hQ; simp only [L2, L3, std] at *; try simp only [syS, reduceCtorEq, Int.reduceToNat, Int.reduceAdd, Int.reduceSub] at *)
     have : lenL l = l.length := rfl
     have := zml l
     rw [zcf] at hz
     have h4 := hz.1.1
     have h5 := hz.1.2
     rw [zbz]
     have e : zab (znl b k l i) (zbu (zdl l i)) = znl b k l (i + 1) := by
       rw [znl, znl, zdv (by omega)]; unfold zab; simp only [List.append_assoc]
     rw [e]
     exact ⟨⟨rfl, fun _ _ _ _ => rfl⟩, rfl, by omega, by omega, by omega⟩
   · (subst hL; subst hQ; simp only [L2, L3, std] at *; try simp only [syS, reduceCtorEq, Int.reduceToNat, Int.reduceAdd, Int.reduceSub] at *)
     have : lenL l = l.length := rfl
     have hil : i = l.length := by omega
     exact zts (by rw [zaj, if_neg h1, if_neg h2, znl, hil, zgn, List.take_length]; unfold zab; simp only [List.append_assoc])
theorem ylc {N : Nat} (ih : zgm Tryz.prog (zpe N std)) (k n : Int) (s : List UInt8) (l : List CV) (hz : zp2 (N + 1) (.mk k n s l)) (hw : zzc (.mk k n s l)) :
   zbf Tryz.prog 112 [.ref 500000 0, .agg [.int .i64 k, .int .u64 n, .str s, cvL std l]] yp7 (.tup []) (ztd std (zbu (.mk k n s l))) := by
 refine zbi (T := tt) (S := fun L => zcv [zk1 L] [yt5 L, yt4 L, zpe N L]) (lo := fun L => putA L [] k l) (lb := noA) 5 (fn := Tryz.f112) (xs := fun L => [.ref 500000 0, .agg [.int .i64 k, .int .u64 n, .str s, cvL L l]]) (rts := fun _ => []) (O := fun L => yp7) (O1 := fun L => ztd L (L zbu (.mk k n s l)))
   rfl rfl (by kernel_rfl) (by kernel_rfl) (by kernel_rfl) zaa (zb1 ⟨zib, trivial⟩ ⟨zz3, zyx, ih, trivial⟩) (by kernel_rfl) ?_
 intro L P' Q' hL hP hQ
 have hb : zf4 [] (zbu (.mk k n s l)) := by have := hw.2; unfold zf4; simp; omega
 have hB : ∀ b : List UInt8, L (L zbd (L lenN b)) (fun i => (AV.int .u8 (L2 L za8 b i)).toI) = b := by subst hL; exact zgj
 (cbv; try simp only [syT, true_and, and_true])
 simp only [hB]
 refine ⟨?_, fun h1 => ⟨?_, ⟨trivial, fun _ _ _ _ => trivial⟩, trivial, ?_, ?_⟩, fun h1 => ⟨fun h2 => ⟨?_, ?_, ⟨trivial, fun _ _ _ _ => trivial⟩, trivial, ?_, ?_⟩, fun h2 => ⟨?_, ⟨trivial, fun _ _ _ _ => trivial⟩, trivial, ?_, ⟨0, ?_⟩, fun i hi => ?_⟩⟩⟩
 · (subst hL; subst hQ; simp only [L2, L3, std] at *; try simp only [syS, reduceCtorEq, Int.reduceToNat, Int.reduceAdd, Int.reduceSub] at *)
   exact ⟨Int.emod_nonneg _ (by omega), Int.emod_lt_of_pos _ (by omega)⟩
 · (subst hL; subst hQ; simp only [L2, L3, std] at *; try simp only [syS, reduceCtorEq, Int.reduceToNat, Int.reduceAdd, Int.reduceSub] at *)
   rw [zz2] at hw
   exact hw.1.1
 · (subst hL; subst hQ; simp only [L2, L3, std] at *; try simp only [syS, reduceCtorEq, Int.reduceToNat, Int.reduceAdd, Int.reduceSub] at *)
   rw [zaj, if_pos h1] at hb
   exact ztu hb
 · (subst hL; subst hQ; simp only [L2, L3, std] at *; try simp only [syS, reduceCtorEq, Int.reduceToNat, Int.reduceAdd, Int.reduceSub] at *)
   exact yj0 (by rw [zaj, if_pos h1])
 · (subst hL; subst hQ; simp only [L2, L3, std] at *; try simp only [syS, reduceCtorEq, Int.reduceToNat, Int.reduceAdd, Int.reduceSub] at *)
   rw [zz2] at hw
   rw [zh5 (by omega) (by omega)]
   exact ⟨by omega, by omega⟩
 · (subst hL; subst hQ; simp only [L2, L3, std] at *; try simp only [syS, reduceCtorEq, Int.reduceToNat, Int.reduceAdd, Int.reduceSub] at *)
   rw [zi6 hw.1]
   have h3 := hw.2
   rw [zaj, if_neg h1, if_pos h2] at h3
   simp at h3 |-
   omega
 · (subst hL; subst hQ; simp only [L2, L3, std] at *; try simp only [syS, reduceCtorEq, Int.reduceToNat, Int.reduceAdd, Int.reduceSub] at *)
   rw [zi6 hw.1]
   rw [zaj, if_neg h1, if_pos h2] at hb
   exact ztu hb
 · (subst hL; subst hQ; simp only [L2, L3, std] at *; try simp only [syS, reduceCtorEq, Int.reduceToNat, Int.reduceAdd, Int.reduceSub] at *)
   rw [zi6 hw.1]
   exact yj0 (by rw [zaj, if_neg h1, if_pos h2])
 · (subst hL; subst hQ; simp only [L2, L3, std] at *; try simp only [syS, reduceCtorEq, Int.reduceToNat, Int.reduceAdd, Int.reduceSub] at *)
   rw [zi7 hz]
   exact zlc hz
 · (subst hL; subst hQ; simp only [L2, L3, std] at *; try simp only [syS, reduceCtorEq, Int.reduceToNat, Int.reduceAdd, Int.reduceSub] at *)
   rw [zi7 hz]
   rw [zaj, if_neg h1, if_neg h2] at hb
   exact yj4 hb
 · (cbv; try simp only [syT, true_and, and_true])
   (subst hL; subst hQ; simp only [L2, L3, std] at *; try simp only [syS, reduceCtorEq, Int.reduceToNat, Int.reduceAdd, Int.reduceSub] at *)
   rw [zi7 hz]
   have e : zab (zc6 (k % 256)) (zb5 ((l.length : Nat) : Int)) = znl [] k l 0 := by
     rw [znl, zgn, List.take_zero, zax, List.append_nil]; rfl
   rw [e]
   exact ⟨⟨rfl, fun _ _ _ _ => rfl⟩, rfl, Nat.zero_le _⟩
 · cbv at hi
   (cbv; try simp only [syT, true_and, and_true])
   simp only [hB]
   refine ⟨fun hlt => ⟨?_, ⟨trivial, fun _ _ _ _ => trivial⟩, trivial, fun _ _ _ _ => trivial, ⟨?_, ?_, ?_, ?_⟩, ⟨i + 1, ?_⟩⟩, fun hge => ?_⟩
   · (subst hL; subst hQ; simp only [L2, L3, std] at *; try simp only [syS, reduceCtorEq, Int.reduceToNat, Int.reduceAdd, Int.reduceSub] at *)
     omega
   · (subst hL; subst hQ; simp only [L2, L3, std] at *; try simp only [syS, reduceCtorEq, Int.reduceToNat, Int.reduceAdd, Int.reduceSub] at *)
     exact (zk7 _).2
   · (subst hL; subst hQ; simp only [L2, L3, std] at *; try simp only [syS, reduceCtorEq, Int.reduceToNat, Int.reduceAdd, Int.reduceSub] at *)
     rw [zdm]
     rw [zcf] at hz
     exact zug hz.1 (by have : lenL l = l.length := rfl; omega)
   · (subst hL; subst hQ; simp only [L2, L3, std] at *; try simp only [syS, reduceCtorEq, Int.reduceToNat, Int.reduceAdd, Int.reduceSub] at *)
     rw [zbz]
     exact yiv hw (by omega) (by omega) (by have : lenL l = l.length := rfl; omega)
   · (subst hL; subst hQ; simp only [L2, L3, std] at *; try simp only [syS, reduceCtorEq, Int.reduceToNat, Int.reduceAdd, Int.reduceSub] at *)
     rw [zbz]
     have h4 := zdv (l := l) (i := i) (by have : lenL l = l.length := rfl; omega)
     have h5 := zi8 l (i + 1)
     rw [h4, List.length_append] at h5
     rw [zaj, if_neg h1, if_neg h2] at hb
     unfold zf4 at hb |-
     simp only [List.length_append, znl] at hb |-
     omega
   · (cbv; try simp only [syT, true_and, and_true])
     (subst hL; subst hQ; simp only [L2, L3, std] at *; try simp only [syS, reduceCtorEq, Int.reduceToNat, Int.reduceAdd, Int.reduceSub] at *)
     have : lenL l = l.length := rfl
     have := zml l
     rw [zcf] at hz
     have h4 := hz.1.1
     have h5 := hz.1.2
     rw [zbz]
     have e : zab (znl [] k l i) (zbu (zdl l i)) = znl [] k l (i + 1) := by
       rw [znl, znl, zdv (by omega)]; unfold zab; simp only [List.append_assoc]
     rw [e]
     exact ⟨⟨rfl, fun _ _ _ _ => rfl⟩, rfl, by omega, by omega, by omega⟩
   · (subst hL; subst hQ; simp only [L2, L3, std] at *; try simp only [syS, reduceCtorEq, Int.reduceToNat, Int.reduceAdd, Int.reduceSub] at *)
     have : lenL l = l.length := rfl
     have hil : i = l.length := by omega
     exact zts (by rw [zaj, if_neg h1, if_neg h2, znl, hil, zgn, List.take_length, List.nil_append, List.append_assoc])
theorem ybh {P : Program} {f : FuncId} {xs ys : List AV} {O O1 : List (Nat × Ob)} {r : AV} (e : ∀ h D μ vs, RL h D μ xs vs -> RL h D μ ys vs) (hm : zbf P f ys O r O1) : zbf P f xs O r O1 :=
 fun D w μ vs hD hx => hm D w μ vs hD (e _ _ _ _ hx)
theorem ydg : ∀ N, zgm Tryz.prog (zpe N std) := by
 intro N
 induction N with
 | zero =>
   intro raw ob T hT hp
   unfold zpe at hT
   simp only at hT
   split at hT
   · rename_i k n s x
     split at hT <;> cases hT
     · have h1 : sizeC (mkV std k n s x) <= 0 := hp.2.1.1
       have := zem (mkV std k n s x)
       omega
     · have h1 : sizeC (mkV std k n s x) <= 0 := hp.2.1.1
       have := zem (mkV std k n s x)
       omega
   · cases hT
 | succ N ih =>
   intro raw ob T hT hp
   unfold zpe at hT
   simp only at hT
   split at hT
   rotate_left
   · cases hT
   rename_i k n s x
   split at hT <;> cases hT
   · refine ybh (fun h D μ vs hr => rl_2 (fun v => yka hp.1) hr) ?_
     exact ylc ih k n s (rdL x) hp.2.1 hp.2.2
   · refine ybh (fun h D μ vs hr => rl_2 (fun v => yka hp.1) hr) ?_
     exact ylb ih _ k n s (rdL x) hp.2.1 hp.2.2.1 hp.2.2.2
end Sy
end Go.Proofs.YtogpolfhcbgcbaaGreatDoor
namespace Go.Proofs.YtogpolfhcbgcbaaGreatDoor
namespace Sy
open Go Go.RowKit
set_option maxRecDepth 100000
set_option linter.unusedSimpArgs false
set_option linter.unusedVariables false
theorem zti {P : Program} {f : FuncId} {sz n : Nat} {get : Nat -> Nat -> AV} {r : AV} (h0 : n = 0 -> za9 P f [.nils] r) (h1 : n = 0 -> za9 P f [.emp] r) (h2 : 0 < n -> za9 P f [.lst sz n get] r) : za9 P f [.lst sz n get] r := by
 by_cases e : n = 0
 · subst e
   intro D w vs hD hx
   obtain ⟨v, hv⟩ : ∃ v, vs.toList = [v] := List.length_eq_one_iff.1 (by simpa using hx.1.symm)
   have : vs = #[v] := by rw [<- Array.toArray_toList (xs := vs), hv]
   subst this
   have hr := hx.2 0 _ _ rfl rfl
   have one : ∀ y, R w.heap D zap y v -> RL w.heap D zap [y] #[v] := fun y r => ⟨rfl, fun i x u hx hu => by
     match i with
     | 0 => cases hx; cases hu; exact r
     | i + 1 => simp at hx⟩
   cases hr with
   | lst0 _ _ a cap hn =>
     cases a with
     | none =>
       obtain rfl := hn rfl
       exact h0 rfl D w _ hD (one _ .nils)
     | some a => exact h1 rfl D w _ hD (one _ (.emp a cap))
   | lst _ _ _ b o cap vs' hD' hc hv' h1' hr' => exact h1 rfl D w _ hD (one _ (.emp _ cap))
 · exact h2 (by omega)
def zgk (n : Int) : CV := .mk 1 n [] []
def zjd (s : List UInt8) : CV := .mk 2 0 s []
def zdp (l : List CV) : CV := .mk 3 0 [] l
def zx8 (L : za7) : zbh := (85, fun xs => match xs with | [.int .u64 n] => some (True, cvA L (L zgk n)) | _ => none)
def zw4 (L : za7) : zbh := (116, fun xs => match xs with | [.str s] => some (True, cvA L (L zjd s)) | _ => none)
theorem zjg : zaz Tryz.prog (zx8 std) := by
 intro xs p r h hp
 unfold zx8 at h
 simp only at h
 split at h
 rotate_left
 · cases h
 rename_i n
 cases h
 refine za5 (T := tt) (S := noS) (lo := noA) (lb := noA) 5 (fn := Tryz.f85) rfl rfl (by kernel_rfl) (by kernel_rfl) rfl zaa (zbx _) (by kernel_rfl) ?_
 (intro L P1 Q1 hL hP hQ; cbv; subst hL; simp only [L2, L3, std, syT]; subst hQ)
 show zfo (.agg [.int .i64 1, .int .u64 n, .str [], .lst 4 0 (zjp (zgk n))]) _
 simp [zg1, zd4, zdr, zis, zds]
theorem zjc : zaz Tryz.prog (zw4 std) := by
 intro xs p r h hp
 unfold zw4 at h
 simp only at h
 split at h
 rotate_left
 · cases h
 rename_i n
 cases h
 refine za5 (T := tt) (S := noS) (lo := noA) (lb := noA) 5 (fn := Tryz.f116) rfl rfl (by kernel_rfl) (by kernel_rfl) rfl zaa (zbx _) (by kernel_rfl) ?_
 (intro L P1 Q1 hL hP hQ; cbv; subst hL; simp only [L2, L3, std, syT]; subst hQ)
 show zfo (.agg [.int .i64 2, .int .u64 0, .str n, .lst 4 0 (zjp (zjd n))]) _
 simp [zg1, zd4, zdr, zis, zds]
def ybr (l : List CV) : Prop := l.length <= 1000000
def zt3 (L : za7) : zbh := (115, fun xs => match xs with
 | [x] => some (L okL x /\ L ybr (L rdL x), .lst 4 (L lenL (L rdL x)) (L zhx (L rdL x)))
 | _ => none)
theorem zy2 : zaz Tryz.prog (zt3 std) := by
 intro xs p r h hp
 unfold zt3 at h
 simp only at h
 split at h
 rotate_left
 · cases h
 rename_i x
 cases h
 obtain ⟨ho, hz⟩ := hp
 refine ytp ho ?_
 have hz : ybr (rdL x) := hz
 show za9 _ _ [cvL std (rdL x)] (.lst 4 (lenL (rdL x)) (zhx (rdL x)))
 generalize rdL x = l at hz |-
 refine zti (fun h => ?_) (fun h => ?_) (fun h => ?_)
 · refine za5 (T := tt) (S := noS) (lo := noA) (lb := noA) 5 (fn := Tryz.f115) rfl rfl (by kernel_rfl) (by kernel_rfl) rfl zaa (zbx _) (by kernel_rfl) ?_
   intro L P' Q' hL hP hQ
   (cbv; try simp only [syT, true_and, and_true])
   (subst hL; subst hQ; simp only [L2, L3, std] at *; try simp only [syS, reduceCtorEq, Int.reduceToNat, Int.reduceAdd, Int.reduceSub] at *)
   exact h.symm
 · refine za5 (T := tt) (S := noS) (lo := noA) (lb := noA) 5 (fn := Tryz.f115) rfl rfl (by kernel_rfl) (by kernel_rfl) rfl zaa (zbx _) (by kernel_rfl) ?_
   intro L P' Q' hL hP hQ
   (cbv; try simp only [syT, true_and, and_true])
   (subst hL; subst hQ; simp only [L2, L3, std] at *; try simp only [syS, reduceCtorEq, Int.reduceToNat, Int.reduceAdd, Int.reduceSub] at *)
   exact ⟨by omega, h.symm, fun i j hi => by omega⟩
 · refine za6 (T := tt) (S := noS) (lo := fun _ => noA std) (lb := noA) 5 (fn := Tryz.f115) (xs := fun L => [cvL L l]) rfl rfl (by kernel_rfl) (by kernel_rfl) rfl zaa (zbx _) (by kernel_rfl) ?_
   intro L P' Q' hL hP hQ
   (cbv; try simp only [syT, true_and, and_true])
   (subst hL; subst hQ; simp only [L2, L3, std] at *; try simp only [syS, reduceCtorEq, Int.reduceToNat, Int.reduceAdd, Int.reduceSub] at *)
   have h1 : lenL l <= 1000000 := hz
   exact ⟨zot h, by omega, fun i j hi hj => by rw [zt1 _ _ hj, zbt _ _ _ hi]⟩
def zfi (L : za7) : zbh := (84, fun xs => match xs with
 | [x] => some (L okL x /\ L ybr (L rdL x), cvA L (L zdp (L rdL x)))
 | _ => none)
theorem zc8 : zaz Tryz.prog (zfi std) := by
 intro xs p r h hp
 unfold zfi at h
 simp only at h
 split at h
 rotate_left
 · cases h
 rename_i x
 cases h
 obtain ⟨ho, hz⟩ := hp
 refine ytp ho ?_
 have hz : ybr (rdL x) := hz
 show za9 _ _ [cvL std (rdL x)] (cvA std (zdp (rdL x)))
 generalize rdL x = l at hz |-
 refine za6 (T := tt) (S := fun L => zak [zt3 L]) (lo := fun _ => noA std) (lb := noA) 5 (fn := Tryz.f84) (xs := fun L => [cvL L l]) rfl rfl (by kernel_rfl) (by kernel_rfl) rfl zaa (za2 ⟨zy2, trivial⟩) (by kernel_rfl) ?_
 intro L P' Q' hL hP hQ
 (cbv; try simp only [syT, true_and, and_true])
 (subst hL; subst hQ; simp only [L2, L3, std] at *; try simp only [syS, reduceCtorEq, Int.reduceToNat, Int.reduceAdd, Int.reduceSub] at *)
 rw [rdl]
 refine ⟨⟨okl l, hz⟩, ?_⟩
 show zfo (.agg [.int .i64 3, .int .u64 0, .str [], .lst 4 (lenL l) (zhx l)]) _
 simp [zg1, zd4, zdr, zit, zds]
def zrq (v : CV) : Int := if zfg v = true then (if zde v > 6 then 8 else if (zbu v).length > 8192 then 5 else 0) else 10
def zx0 (v : CV) : List UInt8 := if zrq v = 0 then zbu v else []
def zvq (N : Nat) (L : za7) : zbh := (83, fun xs => match xs with
 | [.agg [.int .i64 k, .int .u64 n, .str s, x]] => some (L okL x /\ L2 L zp2 N (mkV L k n s x) /\ L zzc (mkV L k n s x), .tup [.str (L zx0 (mkV L k n s x)), .int .i64 (L zrq (mkV L k n s x))])
 | _ => none)
theorem zn1 (N : Nat) : zaz Tryz.prog (zvq N std) := by
 intro xs p r h hp
 unfold zvq at h
 simp only at h
 split at h
 rotate_left
 · cases h
 rename_i k n s x
 cases h
 obtain ⟨ho, hz, hw⟩ := hp
 refine yto ho ?_
 rw [show mkV std k n s x = .mk k n s (rdL x) from rfl] at hz hw |-
 generalize rdL x = l at hz hw |-
 have hz : zp2 N (.mk k n s l) := hz
 have hw : zzc (.mk k n s l) := hw
 refine za6 (T := tt) (S := fun L => zcv [zn5 N L, zqn N L] [zpe N L, yvq L, yvo L]) (lo := fun _ => noA std) (lb := noA) 5 (fn := Tryz.f83) (xs := fun L => [.agg [.int .i64 k, .int .u64 n, .str s, cvL L l]]) rfl rfl (by kernel_rfl) (by kernel_rfl) rfl zaa
   (zb1 ⟨yec N, yd7 N, trivial⟩ ⟨ydg N, yoj, yoh, trivial⟩) (by kernel_rfl) ?_
 intro L P' Q' hL hP hQ
 have hB : ∀ b : List UInt8, L (L zbd (L lenN b)) (fun i => (AV.int .u8 (L2 L za8 b i)).toI) = b := by subst hL; exact zgj
 (cbv; try simp only [syT, true_and, and_true])
 simp only [hB]
 (subst hL; subst hQ; simp only [L2, L3, std] at *; try simp only [syS, reduceCtorEq, Int.reduceToNat, Int.reduceAdd, Int.reduceSub] at *)
 simp only [rdl, mkl]
 refine ⟨⟨okl l, hz⟩, fun h1 => ?_, fun h1 => ⟨⟨okl l, hz⟩, fun h2 => ?_, fun h2 => ⟨⟨okl l, hz, hw⟩, fun h3 => ?_, fun h3 => ⟨⟨?_, hw.2⟩, ?_⟩⟩⟩⟩
 · simp [zx0, zrq, h1]
 · simp [zx0, zrq, h1, h2]
 · have h4 : ¬ 6 < zde (.mk k n s l) := by omega
   have h5 : 8192 < (zbu (.mk k n s l)).length := by omega
   simp [zx0, zrq, h1, h4, h5]
 · rw [zaj]; simp [zg3]
 · have h4 : ¬ 6 < zde (.mk k n s l) := by omega
   have h5 : ¬ 8192 < (zbu (.mk k n s l)).length := by omega
   simp [zx0, zrq, h1, h4, h5]
theorem one1 (v : CV) : rdL (.lst 4 1 fun i j => zbk .dead [.int .i64 v.kd, .int .u64 v.nn, .str v.tx, .lst 4 (zlp v) (zjp v)] (i * 4 + j)) = [v] := by
 show [CV.mk v.kd v.nn v.tx (rdL (.lst 4 (zlp v) (zjp v)))] = [v]
 rw [zdm]
theorem ylp (v : CV) : okL (.lst 4 1 fun i j => zbk .dead [.int .i64 v.kd, .int .u64 v.nn, .str v.tx, .lst 4 (zlp v) (zjp v)] (i * 4 + j)) := by
 refine ⟨rfl, fun i hi => ?_⟩
 have : i = 0 := by omega
 subst this
 exact ⟨⟨_, rfl⟩, ⟨_, rfl⟩, ⟨_, rfl⟩, (zk7 v).2⟩
theorem zzl : zb5 1 = [1] := by rw [zb5, show (1 : Int).toNat = 1 from rfl, zbe (by decide)]; rfl
theorem ypq : zb5 5 = [5] := by rw [zb5, show (5 : Int).toNat = 5 from rfl, zbe (by decide)]; rfl
theorem zsr : zbu (zdp [zgk 5]) = [3, 1, 1, 5] := by
 rw [zdp, zgk, zaj, if_neg (by decide), if_neg (by decide), zax, zaj, if_pos rfl, zax, ypq]
 show _ ++ (zb5 1 ++ _) = _
 rw [zzl]; rfl
theorem ynf : zfg (zdp [zgk 5]) = true := by rw [zdp, zgk, zfg, zdh, zfg, zdh]; rfl
theorem yne : zde (zdp [zgk 5]) = 1 := by rw [zdp, zgk, zde, zay, zde, zay]; rfl
theorem ync : sizeC (zdp [zgk 5]) = 2 := by rw [zdp, zgk, zcp, zbn, zck, zcp, zck]
theorem yd0 : zrq (zdp [zgk 5]) = 0 := by rw [zrq, ynf, yne, zsr]; rfl
theorem ynd : zx0 (zdp [zgk 5]) = [3, 1, 1, 5] := by rw [zx0, yd0, zsr]; rfl
theorem yv6 : zzc (zdp [zgk 5]) := by
 refine ⟨?_, by rw [zsr]; decide⟩
 simp only [zdp, zgk, wfV, ztl, zcq]
 decide
theorem zy9 : za9 Tryz.prog 91 [] (.bool true) := by
 refine za5 (T := tt) (S := fun L => zak [zx8 L, zfi L, zvq 100 L, tru 123]) (lo := noA) (lb := noA) 5 (fn := Tryz.f91) rfl rfl (by kernel_rfl) (by kernel_rfl) rfl zaa (za2 ⟨zjg, zc8, zn1 100, zbw zn8, trivial⟩) (by kernel_rfl) ?_
 intro L P' Q' hL hP hQ
 (cbv; try simp only [syT, true_and, and_true])
 (subst hL; subst hQ; simp only [L2, L3, std] at *; try simp only [syS, reduceCtorEq, Int.reduceToNat, Int.reduceAdd, Int.reduceSub] at *)
 simp only [one1, zdm, zbz, yd0, ynd]
 exact ⟨⟨ylp _, by show (1 : Nat) <= 1000000; omega⟩, ⟨(zk7 _).2, ⟨by rw [ync]; omega, by omega⟩, yv6⟩, fun _ => trivial, trivial⟩
theorem zym : za9 Tryz.prog 67 [] (.bool true) := by
 refine za5 (T := tt) (S := fun L => zak [tru 91]) (lo := noA) (lb := noA) 5 (fn := Tryz.f67) rfl rfl (by kernel_rfl) (by kernel_rfl) rfl zaa (za2 ⟨zbw zy9, trivial⟩) (by kernel_rfl) ?_
 (intro L P1 Q1 hL hP hQ; cbv; subst hL; simp only [L2, L3, std, syT]; subst hQ)
 (simp only [syS, reduceCtorEq, Int.reduceToNat, Int.reduceAdd, Int.reduceSub])
theorem zol (g : Nat -> CV) {i q j : Nat} (hq : q < i + 1) (hj : j < 4) :
   zgp std (zbc q i) (cv1 std (g q) j) (zbk .dead [.int .i64 (g i).kd, .int .u64 (g i).nn, .str (g i).tx, .lst 4 (zlp (g i)) (zjp (g i))] ((q - i) * 4 + j)) = cv1 std (g q) j := by
 by_cases h : q < i
 · rw [zot h, show q - i = 0 by omega, Nat.zero_mul, Nat.zero_add]
   match j, hj with
   | 0, _ => rfl
   | 1, _ => rfl
   | 2, _ => rfl
   | 3, _ => rfl
 · have : q = i := by omega
   subst this
   rw [ztc (by omega), show q - q = 0 by omega, Nat.zero_mul, Nat.zero_add]
   match j, hj with
   | 0, _ => rfl
   | 1, _ => rfl
   | 2, _ => rfl
   | 3, _ => rfl
end Sy
end Go.Proofs.YtogpolfhcbgcbaaGreatDoor
namespace Go.Proofs.YtogpolfhcbgcbaaGreatDoor
namespace Sy
open Go Go.RowKit
set_option maxRecDepth 100000
set_option linter.unusedSimpArgs false
set_option linter.unusedVariables false
structure Nd where
 k : Int
 n : Int
 s : List UInt8
 b : List UInt8
def ytd (l : List Nd) (i : Nat) : Nd := l.getD i ⟨0, 0, [], []⟩
def yok {α : Type} (all : List α) : List UInt8 -> List α
 | [] => []
 | x :: b => if h : x.toNat < all.length then all[all.length - 1 - x.toNat] :: yok all b else yok all b
def sumI : List Int -> Int
 | [] => 0
 | x :: l => x + sumI l
def sizN (all : List Int) (d : Nd) : Int := 1 + ((d.s.length / 8 : Nat) : Int) + sumI (yok all d.b)
def ykq (l : List Nd) : Nat -> List Int
 | 0 => []
 | i + 1 => ykq l i ++ [sizN (ykq l i) (ytd l i)]
def sizD (l : List Nd) (i : Nat) : Int := sizN (ykq l i) (ytd l i)
def yhu (l : List Nd) (i : Nat) : Prop := sizD l i <= 2000 /\ (ytd l i).s.length <= 9000 /\ (ytd l i).b.length <= 20 /\ l.length <= 40
def yjq (l : List Nd) (i : Nat) : Prop := ∀ j, j < i -> yhu l j
instance (l : List Nd) (i : Nat) : Decidable (yhu l i) := by unfold yhu; exact inferInstance
instance (l : List Nd) (i : Nat) : Decidable (yjq l i) := by unfold yjq; exact Nat.decidableBallLT i fun j _ => yhu l j
end Sy
end Go.Proofs.YtogpolfhcbgcbaaGreatDoor
namespace Go.Proofs.YtogpolfhcbgcbaaGreatDoor
namespace Sy
open Go Go.RowKit
set_option maxRecDepth 100000
set_option linter.unusedSimpArgs false
set_option linter.unusedVariables false
end Sy
end Go.Proofs.YtogpolfhcbgcbaaGreatDoor
namespace Go.Proofs.YtogpolfhcbgcbaaGreatDoor
namespace Sy
open Go Go.RowKit
set_option maxRecDepth 100000
set_option linter.unusedSimpArgs false
set_option linter.unusedVariables false
structure Lv where
 left : Int
 l : List CV
structure NR where
 v : CV
 r : List UInt8
 e : Int
structure NX where
 st : List Lv
 s : List UInt8
 f : Nat
 v : CV
def zlt (e : Int) : NR := ⟨.mk 0 0 [] [], [], e⟩
def zf6 (val : List Lv -> List UInt8 -> NR) : List Lv -> CV -> List UInt8 -> NR
 | [], v, s => ⟨v, s, 0⟩
 | a :: st, v, s => if a.left - 1 = 0 then zf6 val st (.mk 3 0 [] (a.l ++ [v])) s else val (⟨a.left - 1, a.l ++ [v]⟩ :: st) s
def zij (val : List Lv -> List UInt8 -> NR) : List Lv -> List UInt8 -> NR
 | [], s => zlt 0
 | a :: st, s => if a.left = 0 then zf6 val st (.mk 3 0 [] a.l) s else val (a :: st) s
def zgs (s : List UInt8) : List UInt8 := (s.drop 1).drop (yuo (s.drop 1)).toNat
def ze8 : Nat -> List Lv -> List UInt8 -> NR
 | 0, _, _ => zlt 0
 | f + 1, st, s =>
   if s = [] then zlt 3
   else if cb s 0 < 1 \/ 3 < cb s 0 then zlt 10
   else if ytg (s.drop 1) ≠ 0 then zlt (ytg (s.drop 1))
   else if cb s 0 = 1 then zf6 (ze8 f) st (.mk 1 (ym1 (s.drop 1)) [] []) (zgs s)
   else if cb s 0 = 2 then
     if ((zgs s).length : Int) < ym1 (s.drop 1) then zlt 3
     else zf6 (ze8 f) st (.mk 2 0 ((zgs s).take (ym1 (s.drop 1)).toNat) []) ((zgs s).drop (ym1 (s.drop 1)).toNat)
   else if st.length = 6 then zlt 8
   else zij (ze8 f) (⟨ym1 (s.drop 1), []⟩ :: st) (zgs s)
def yqe (s : List UInt8) : NR := if 8192 < s.length then zlt 5 else ze8 (s.length + 1) [] s
def ypn : List Lv -> Nat
 | [] => 0
 | a :: r => a.l.length + 1 + ypn r
def lvOk (st : List Lv) : Prop := ∀ a ∈ st, 1 <= a.left /\ a.left < 18446744073709551616
def yum (s0 : List UInt8) (x : NX) : Prop := x.st.length <= 6 /\ lvOk x.st /\ x.s.length < x.f /\ x.s.length + ypn x.st <= 8192 /\ ze8 x.f x.st x.s = yqe s0
section
variable {s0 s : List UInt8} {st : List Lv} {f : Nat} {v : CV}
variable (h : yum s0 ⟨st, s, f, v⟩)
include h
end
section
variable {s0 s : List UInt8} {st : List Lv} {f : Nat} {v : CV} {a : Lv}
end
end Sy
end Go.Proofs.YtogpolfhcbgcbaaGreatDoor
namespace Go.Proofs.YtogpolfhcbgcbaaGreatDoor
namespace Sy
open Go Go.RowKit
set_option maxRecDepth 100000
set_option linter.unusedSimpArgs false
set_option linter.unusedVariables false
theorem zns {m : Int} (h : zcq m) (g : Nat) (st : List Lv) (c : UInt8) (r : List UInt8) (hc : 1 <= c.toNat /\ c.toNat <= 3) : ze8 (g + 1) st (c :: (zb5 m ++ r)) =
   if c.toNat = 1 then zf6 (ze8 g) st (.mk 1 m [] []) r
   else if c.toNat = 2 then
     if (r.length : Int) < m then zlt 3
     else zf6 (ze8 g) st (.mk 2 0 (r.take m.toNat) []) (r.drop m.toNat)
   else if st.length = 6 then zlt 8
   else zij (ze8 g) (⟨m, []⟩ :: st) r := by
 obtain ⟨e1, e2, e3⟩ := yr1 h r
 have hcb : cb (c :: (zb5 m ++ r)) 0 = c.toNat := rfl
 have hr : zgs (c :: (zb5 m ++ r)) = r := by
   unfold zgs
   rw [List.drop_succ_cons, List.drop_zero, e2]
   simp
 rw [ze8, if_neg (by simp), hcb, if_neg (by omega), List.drop_succ_cons, List.drop_zero, e1, e3, hr, if_neg (by simp)]
theorem ynp (v : CV) : 0 <= zde v /\ 0 <= zay v.ls := by
 have h0 : ∀ b : List CV, 0 <= zay b := by
   intro b
   induction b with
   | nil => rw [zay]; omega
   | cons v l ih => rw [zay]; omega
 refine ⟨?_, h0 _⟩
 cases v with
 | mk k n s l =>
   rw [zde]
   have := h0 l
   split <;> omega
def yop (v : CV) : Prop := ∀ (st : List Lv) (s : List UInt8) (f : Nat), wfV v -> zfg v = true -> (st.length : Int) + zde v <= 6 -> (zbu v).length <= 90000000 -> (zbu v).length + s.length < f ->
 ∃ f', s.length < f' /\ ze8 f st (zbu v ++ s) = zf6 (ze8 f') st v s
theorem yf6 (v : CV) : 0 < (zbu v).length := by
 cases v with
 | mk k n s l =>
   rw [zaj, List.length_append]
   show 0 < 1 + _
   omega
theorem zp1 : ∀ l : List CV, l.length <= (zax l).length
 | [] => by simp
 | v :: l => by
   have := zp1 l
   have := yf6 v
   rw [zax, List.length_append, List.length_cons]
   omega
theorem zud (st : List Lv) (s : List UInt8) : ∀ (l : List CV) (acc : List CV) (f : Nat), (∀ w ∈ l, yop w) -> ztl l -> zdh l = true -> (st.length : Int) + 1 + zay l <= 6 -> (zax l).length <= 90000000 -> (zax l).length + s.length < f ->
   ∃ f', s.length < f' /\ zij (ze8 f) (⟨(l.length : Int), acc⟩ :: st) (zax l ++ s) = zf6 (ze8 f') st (.mk 3 0 [] (acc ++ l)) s
 | [], acc, f, hr, hw, hb, hd, ht, hf => by
   refine ⟨f, by rw [zax] at hf; simpa using hf, ?_⟩
   rw [zij, if_pos (show ((List.length ([] : List CV) : Nat) : Int) = 0 from rfl), zax, List.nil_append, List.append_nil]
 | v :: l, acc, f, hr, hw, hb, hd, ht, hf => by
   rw [ztl] at hw
   rw [zdh, Bool.and_eq_true] at hb
   rw [zay] at hd
   rw [zax, List.length_append] at ht hf
   obtain ⟨f1, h1, e1⟩ := hr v (by simp) (⟨((v :: l).length : Int), acc⟩ :: st) (zax l ++ s) f hw.1 hb.1 (by rw [List.length_cons]; omega) (by omega) (by rw [List.length_append]; omega)
   rw [List.length_append] at h1
   obtain ⟨f2, h2, e2⟩ := zud st s l (acc ++ [v]) f1 (fun w hw => hr w (by simp [hw])) hw.2 hb.2 (by omega) (by omega) h1
   refine ⟨f2, h2, ?_⟩
   rw [zij, if_neg (by simp; omega), zax, List.append_assoc, e1]
   have e3 : (((v :: l).length : Int) - 1) = (l.length : Int) := by simp
   rw [zij] at e2
   rw [zf6]
   simp only [e3]
   rw [e2, List.append_assoc, List.singleton_append]
theorem reads (v : CV) : yop v := by
 refine ydc (p := yop) (fun k n s l ih => ?_) v
 intro st r f hw hb hd ht hf
 rw [wfV] at hw
 obtain ⟨g, rfl⟩ : ∃ g, f = g + 1 := ⟨f - 1, by omega⟩
 rw [zaj] at ht hf |-
 rw [zfg] at hb
 by_cases h1 : k = 1
 · subst h1
   rw [if_pos rfl] at hb ht hf |-
   simp only [Bool.and_eq_true, decide_eq_true_eq, List.isEmpty_iff] at hb
   obtain ⟨rfl, rfl⟩ := hb
   rw [List.length_append] at hf
   have e : zg3 1 = [1] := rfl
   rw [e] at hf |-
   refine ⟨g, by simp at hf; omega, ?_⟩
   rw [List.singleton_append, List.cons_append, zns hw.1 g st 1 r (by decide)]
   rfl
 · rw [if_neg h1] at hb ht hf |-
   by_cases h2 : k = 2
   · subst h2
     rw [if_pos rfl] at hb ht hf |-
     simp only [Bool.and_eq_true, decide_eq_true_eq, List.isEmpty_iff] at hb
     obtain ⟨rfl, rfl⟩ := hb
     rw [List.length_append, List.length_append] at ht hf
     have e : zg3 2 = [2] := rfl
     rw [e] at hf |-
     refine ⟨g, by simp at hf; omega, ?_⟩
     rw [List.singleton_append, List.cons_append, List.append_assoc, zns ⟨by omega, by omega⟩ g st 2 (s ++ r) (by decide)]
     rw [if_neg (by decide), if_pos (by decide), if_neg (by simp; omega)]
     rw [Int.toNat_natCast, List.take_left, List.drop_left]
   · rw [if_neg h2] at hb ht hf |-
     by_cases h3 : k = 3
     · subst h3
       rw [if_pos rfl] at hb
       simp only [Bool.and_eq_true, decide_eq_true_eq] at hb
       obtain ⟨⟨rfl, rfl⟩, hb⟩ := hb
       rw [zde, if_pos rfl] at hd
       rw [List.length_append, List.length_append] at ht hf
       have e : zg3 3 = [3] := rfl
       rw [e] at hf |-
       have hll := zp1 l
       have hdn := (ynp (.mk 3 0 [] l)).2
       have hdn : 0 <= zay l := hdn
       obtain ⟨f', h5, h6⟩ := zud st r l [] g ih hw.2.2 hb (by omega) (by omega) (by simp at hf; omega)
       refine ⟨f', h5, ?_⟩
       rw [List.singleton_append, List.cons_append, List.append_assoc, zns ⟨by omega, by omega⟩ g st 3 (zax l ++ r) (by decide)]
       rw [if_neg (by decide), if_neg (by decide), if_neg (by omega), h6, List.nil_append]
     · rw [if_neg h3] at hb; cases hb
end Sy
end Go.Proofs.YtogpolfhcbgcbaaGreatDoor
namespace Go.Proofs.YtogpolfhcbgcbaaGreatDoor
namespace Sy
open Go Go.RowKit
set_option maxRecDepth 100000
set_option linter.unusedSimpArgs false
set_option linter.unusedVariables false
theorem yq5 {v : CV} (h : zrq v = 0) : zfg v = true /\ zde v <= 6 /\ (zbu v).length <= 8192 /\ zx0 v = zbu v := by
 have ht : zx0 v = zbu v := by unfold zx0; rw [if_pos h]
 unfold zrq at h
 split at h
 · rename_i h1
   split at h
   · cases h
   · rename_i h2
     split at h
     · cases h
     · rename_i h3
       exact ⟨h1, by omega, by omega, ht⟩
 · cases h
end Sy
end Go.Proofs.YtogpolfhcbgcbaaGreatDoor
namespace Go.Proofs.YtogpolfhcbgcbaaGreatDoor
namespace Sy
open Go Go.RowKit
set_option maxRecDepth 100000
set_option linter.unusedSimpArgs false
set_option linter.unusedVariables false
theorem zty {n : Nat} {get : Nat -> Nat -> AV} {l : List CV} (hn : n = l.length) (h : ∀ i j, i < n -> j < 4 -> get i j = ze3 (zdl l i) j) : rdL (.lst 4 n get) = l /\ okL (.lst 4 n get) := by
 constructor
 · apply List.ext_getElem
   · rw [zk6, hn]
   · intro i h1 h2
     have hi : i < n := by omega
     have e : ∀ m : List CV, ∀ hm : i < m.length, m[i] = zdl m i := fun m hm => by rw [zdl, List.getD_eq_getElem?_getD, List.getElem?_eq_getElem hm]; rfl
     rw [e _ h1, e _ h2, ztx hi, h i 0 hi (by omega), h i 1 hi (by omega), h i 2 hi (by omega), h i 3 hi (by omega), zff, zfe, zfd, zfc]
     show CV.mk _ _ _ (rdL (.lst 4 (zlp (zdl l i)) (zjp (zdl l i)))) = _
     exact zdm _
 · refine ⟨rfl, fun i hi => ?_⟩
   rw [h i 0 hi (by omega), h i 1 hi (by omega), h i 2 hi (by omega), h i 3 hi (by omega), zff, zfe, zfd, zfc]
   exact ⟨⟨_, rfl⟩, ⟨_, rfl⟩, ⟨_, rfl⟩, (zk7 (zdl l i)).2⟩
end Sy
end Go.Proofs.YtogpolfhcbgcbaaGreatDoor
namespace Go.Proofs.YtogpolfhcbgcbaaGreatDoor
namespace Sy
open Go Go.RowKit
set_option maxRecDepth 100000
set_option linter.unusedSimpArgs false
set_option linter.unusedVariables false
structure Rt where
 h : List UInt8
 p : List UInt8
 c : List UInt8
 i : Int
 deriving DecidableEq
structure Ep where
 pl : Pl
 w : Int
 deriving DecidableEq
structure Ls where
 n : List UInt8
 pl : Pl
 rs : List Rt
 deriving DecidableEq
structure Cl where
 n : List UInt8
 es : List Ep
 deriving DecidableEq
structure Cf where
 v : Int
 ls : List Ls
 cs : List Cl
 deriving DecidableEq
def plC (L : za7) (x : Pl) : Nat -> AV
 | 0 => .int .u8 (L Pl.a x)
 | 1 => .int .u8 (L Pl.b x)
 | 2 => .int .u8 (L Pl.c x)
 | 3 => .int .u8 (L Pl.d x)
 | _ => .int .u16 (L Pl.p x)
def rdP (c : Nat -> AV) : Pl := ⟨(c 0).toI, (c 1).toI, (c 2).toI, (c 3).toI, (c 4).toI⟩
def ytc (c : Nat -> AV) : Prop := isI .u8 (c 0) /\ isI .u8 (c 1) /\ isI .u8 (c 2) /\ isI .u8 (c 3) /\ isI .u16 (c 4)
def rtC (L : za7) (x : Rt) : Nat -> AV
 | 0 => .str (L Rt.h x)
 | 1 => .str (L Rt.p x)
 | 2 => .str (L Rt.c x)
 | _ => .int .u64 (L Rt.i x)
def rtV : Vw Rt := ⟨4, rtC, fun c => ⟨zu0 (c 0), zu0 (c 1), zu0 (c 2), (c 3).toI⟩, fun c => isS (c 0) /\ isS (c 1) /\ isS (c 2) /\ isI .u64 (c 3), ⟨[], [], [], 0⟩⟩
def zb8 (l : List Rt) (i : Nat) : Rt := zj2 rtV l i
def ygt (L : za7) (l : List Rt) : AV := .lst 4 (L zcd l) (fun i => rtC L (L (L zb8 l) i))
def yls (x : AV) : Prop := okW rtV x
def yl9 (x : AV) : List Rt := rdW rtV x
def yg9 (x : AV) : Prop := okG rtV x
def yfu (x : AV) : Rt := rdG rtV x
def epC (L : za7) (x : Ep) : Nat -> AV
 | 5 => .int .i64 (L Ep.w x)
 | j => plC L (L Ep.pl x) j
def epV : Vw Ep := ⟨6, epC, fun c => ⟨rdP c, (c 5).toI⟩, fun c => ytc c /\ isI .i64 (c 5), ⟨⟨0, 0, 0, 0, 0⟩, 0⟩⟩
def zhj (l : List Ep) (i : Nat) : Ep := zj2 epV l i
def zs9 (L : za7) (l : List Ep) : AV := .lst 6 (L zcd l) (fun i => epC L (L (L zhj l) i))
def zs1 (x : AV) : Prop := okW epV x
def zrn (x : AV) : List Ep := rdW epV x
def znr (x : AV) : Prop := okG epV x
def znj (x : AV) : Ep := rdG epV x
def lsC (L : za7) (x : Ls) : Nat -> AV
 | 0 => .str (L Ls.n x)
 | 6 => ygt L (L Ls.rs x)
 | j + 1 => plC L (L Ls.pl x) j
def lsV : Vw Ls := ⟨7, lsC, fun c => ⟨zu0 (c 0), rdP (fun j => c (j + 1)), rdW rtV (c 6)⟩, fun c => isS (c 0) /\ ytc (fun j => c (j + 1)) /\ okW rtV (c 6), ⟨[], ⟨0, 0, 0, 0, 0⟩, []⟩⟩
def zls (l : List Ls) (i : Nat) : Ls := zj2 lsV l i
def zs8 (L : za7) (l : List Ls) : AV := .lst 7 (L zcd l) (fun i => lsC L (L (L zls l) i))
def zs0 (x : AV) : Prop := okW lsV x
def zrm (x : AV) : List Ls := rdW lsV x
def zhh (x : AV) : Prop := okG lsV x
def zd6 (x : AV) : Ls := rdG lsV x
def clC (L : za7) (x : Cl) : Nat -> AV
 | 0 => .str (L Cl.n x)
 | _ => zs9 L (L Cl.es x)
def clV : Vw Cl := ⟨2, clC, fun c => ⟨zu0 (c 0), rdW epV (c 1)⟩, fun c => isS (c 0) /\ okW epV (c 1), ⟨[], []⟩⟩
def zkh (l : List Cl) (i : Nat) : Cl := zj2 clV l i
def zo0 (L : za7) (l : List Cl) : AV := .lst 2 (L zcd l) (fun i => clC L (L (L zkh l) i))
def zkd (x : AV) : Prop := okW clV x
def zk9 (x : AV) : List Cl := rdW clV x
def zhi (x : AV) : Prop := okG clV x
def zhc (x : AV) : Cl := rdG clV x
def cfC (L : za7) (x : Cf) : Nat -> AV
 | 0 => .int .u64 (L Cf.v x)
 | 1 => zs8 L (L Cf.ls x)
 | _ => zo0 L (L Cf.cs x)
def cfV : Vw Cf := ⟨3, cfC, fun c => ⟨(c 0).toI, rdW lsV (c 1), rdW clV (c 2)⟩, fun c => isI .u64 (c 0) /\ okW lsV (c 1) /\ okW clV (c 2), ⟨0, [], []⟩⟩
def zs2 (x : AV) : Prop := okG cfV x
def znk (x : AV) : Cf := rdG cfV x
theorem zha : ztj rtV := by
 refine ⟨fun c hc j hj h D μ v r => ?_, fun c x hx => ?_⟩
 · obtain ⟨h0, h1, h2, h3⟩ := hc
   match j, hj with
   | 0, _ => exact ybw h0 r
   | 1, _ => exact ybw h1 r
   | 2, _ => exact ybw h2 r
   | 3, _ => exact zq1 h3 r
 · have e0 := hx 0 (by decide)
   have e1 := hx 1 (by decide)
   have e2 := hx 2 (by decide)
   have e3 := hx 3 (by decide)
   refine ⟨⟨⟨_, e0⟩, ⟨_, e1⟩, ⟨_, e2⟩, ⟨_, e3⟩⟩, ?_⟩
   show Rt.mk (zu0 (c 0)) (zu0 (c 1)) (zu0 (c 2)) (c 3).toI = x
   rw [e0, e1, e2, e3]; rfl
theorem zef {c : Nat -> AV} (hc : ytc c) {j : Nat} (hj : j < 5) {h : Array Obj} {D : Nat -> Prop} {μ : Mu} {v : Value} (r : R h D μ (c j) v) : R h D μ (plC std (rdP c) j) v := by
 obtain ⟨h0, h1, h2, h3, h4⟩ := hc
 match j, hj with
 | 0, _ => exact zq1 h0 r
 | 1, _ => exact zq1 h1 r
 | 2, _ => exact zq1 h2 r
 | 3, _ => exact zq1 h3 r
 | 4, _ => exact zq1 h4 r
theorem yap {c : Nat -> AV} {x : Pl} (hx : ∀ j, j < 5 -> c j = plC std x j) : ytc c /\ rdP c = x := by
 have e0 := hx 0 (by decide)
 have e1 := hx 1 (by decide)
 have e2 := hx 2 (by decide)
 have e3 := hx 3 (by decide)
 have e4 := hx 4 (by decide)
 refine ⟨⟨⟨_, e0⟩, ⟨_, e1⟩, ⟨_, e2⟩, ⟨_, e3⟩, ⟨_, e4⟩⟩, ?_⟩
 unfold rdP
 rw [e0, e1, e2, e3, e4]; rfl
theorem zew : ztj epV := by
 refine ⟨fun c hc j hj h D μ v r => ?_, fun c x hx => ?_⟩
 · obtain ⟨h0, h1⟩ := hc
   match j, hj with
   | 0, _ => exact zef h0 (by omega) r
   | 1, _ => exact zef h0 (by omega) r
   | 2, _ => exact zef h0 (by omega) r
   | 3, _ => exact zef h0 (by omega) r
   | 4, _ => exact zef h0 (by omega) r
   | 5, _ => exact zq1 h1 r
 · have e5 := hx 5 (by decide)
   have hp := yap (c := c) (x := x.pl) (fun j hj => by
     match j, hj with
     | 0, _ => exact hx 0 (by decide)
     | 1, _ => exact hx 1 (by decide)
     | 2, _ => exact hx 2 (by decide)
     | 3, _ => exact hx 3 (by decide)
     | 4, _ => exact hx 4 (by decide))
   refine ⟨⟨hp.1, ⟨_, e5⟩⟩, ?_⟩
   show Ep.mk (rdP c) (c 5).toI = x
   rw [hp.2, e5]; rfl
theorem zd9 : ztj lsV := by
 refine ⟨fun c hc j hj h D μ v r => ?_, fun c x hx => ?_⟩
 · obtain ⟨h0, h1, h2⟩ := hc
   match j, hj with
   | 0, _ => exact ybw h0 r
   | 1, _ => exact zef (c := fun j => c (j + 1)) h1 (j := 0) (by omega) r
   | 2, _ => exact zef (c := fun j => c (j + 1)) h1 (j := 1) (by omega) r
   | 3, _ => exact zef (c := fun j => c (j + 1)) h1 (j := 2) (by omega) r
   | 4, _ => exact zef (c := fun j => c (j + 1)) h1 (j := 3) (by omega) r
   | 5, _ => exact zef (c := fun j => c (j + 1)) h1 (j := 4) (by omega) r
   | 6, _ => exact zx7 zha h2 r
 · have e0 := hx 0 (by decide)
   have e6 := hx 6 (by decide)
   have hp := yap (c := fun j => c (j + 1)) (x := x.pl) (fun j hj => by
     match j, hj with
     | 0, _ => exact hx 1 (by decide)
     | 1, _ => exact hx 2 (by decide)
     | 2, _ => exact hx 3 (by decide)
     | 3, _ => exact hx 4 (by decide)
     | 4, _ => exact hx 5 (by decide))
   have e6 : c 6 = ybk std rtV x.rs := e6
   obtain ⟨k1, k2⟩ := zcg zha x.rs
   rw [<- e6] at k1 k2
   refine ⟨⟨⟨_, e0⟩, hp.1, k1⟩, ?_⟩
   show Ls.mk (zu0 (c 0)) (rdP fun j => c (j + 1)) (rdW rtV (c 6)) = x
   rw [hp.2, k2, e0]; rfl
theorem zcy : ztj clV := by
 refine ⟨fun c hc j hj h D μ v r => ?_, fun c x hx => ?_⟩
 · obtain ⟨h0, h1⟩ := hc
   match j, hj with
   | 0, _ => exact ybw h0 r
   | 1, _ => exact zx7 zew h1 r
 · have e0 := hx 0 (by decide)
   have e1 : c 1 = ybk std epV x.es := hx 1 (by decide)
   obtain ⟨k1, k2⟩ := zcg zew x.es
   rw [<- e1] at k1 k2
   refine ⟨⟨⟨_, e0⟩, k1⟩, ?_⟩
   show Cl.mk (zu0 (c 0)) (rdW epV (c 1)) = x
   rw [k2, e0]; rfl
theorem zqq : ztj cfV := by
 refine ⟨fun c hc j hj h D μ v r => ?_, fun c x hx => ?_⟩
 · obtain ⟨h0, h1, h2⟩ := hc
   match j, hj with
   | 0, _ => exact zq1 h0 r
   | 1, _ => exact zx7 zd9 h1 r
   | 2, _ => exact zx7 zcy h2 r
 · have e0 := hx 0 (by decide)
   have e1 : c 1 = ybk std lsV x.ls := hx 1 (by decide)
   have e2 : c 2 = ybk std clV x.cs := hx 2 (by decide)
   obtain ⟨k1, k2⟩ := zcg zd9 x.ls
   obtain ⟨k3, k4⟩ := zcg zcy x.cs
   rw [<- e1] at k1 k2
   rw [<- e2] at k3 k4
   refine ⟨⟨⟨_, e0⟩, k1, k3⟩, ?_⟩
   show Cf.mk (c 0).toI (rdW lsV (c 1)) (rdW clV (c 2)) = x
   rw [k2, k4, e0]; rfl
end Sy
end Go.Proofs.YtogpolfhcbgcbaaGreatDoor
namespace Go.Proofs.YtogpolfhcbgcbaaGreatDoor
namespace Sy
open Go Go.RowKit
set_option maxRecDepth 100000
set_option linter.unusedSimpArgs false
set_option linter.unusedVariables false
theorem ygb {α : Type} {V : Vw α} (val : α -> CV) {l : List α} {i : Nat} (h : i < l.length) : zdl (l.map val) i = val (zj2 V l i) := by
 rw [zb2 h, zdl, List.getD_eq_getElem?_getD, List.getElem?_eq_getElem (by simpa using h)]; simp
theorem zjn {α : Type} {V : Vw α} {val : α -> CV} {l : List α} {n : Nat} (h : n = l.length) :
   rdL (.lst 4 n fun q j => cv1 std (val (zj2 V l q)) j) = l.map val /\ okL (.lst 4 n fun q j => cv1 std (val (zj2 V l q)) j) :=
 zty (by simpa using h) fun i j hi hj => by rw [zt1 _ _ hj, ygb (V := V) val (by omega)]
def zvt : List CV -> List AV
 | [] => []
 | v :: l => .int .i64 v.kd :: .int .u64 v.nn :: .str v.tx :: .lst 4 (zlp v) (zjp v) :: zvt l
theorem zqr : ∀ (l : List CV) (i j : Nat), i < l.length -> j < 4 -> zbk .dead (zvt l) (i * 4 + j) = ze3 (zdl l i) j
 | [], i, j, hi, _ => by simp at hi
 | v :: l, 0, j, _, hj => by
   match j, hj with
   | 0, _ => exact (zff v).symm
   | 1, _ => exact (zfe v).symm
   | 2, _ => exact (zfd v).symm
   | 3, _ => exact (zfc v).symm
 | v :: l, i + 1, j, hi, hj => by
   rw [show (i + 1) * 4 + j = i * 4 + j + 4 by omega]
   exact zqr l i j (by simpa using hi) hj
theorem zlf (l : List CV) {n : Nat} {cs : List AV} (hn : n = l.length) (h : cs = zvt l) : rdL (.lst 4 n fun i j => zbk .dead cs (i * 4 + j)) = l /\ okL (.lst 4 n fun i j => zbk .dead cs (i * 4 + j)) :=
 zty hn fun i j hi hj => by rw [h]; exact zqr l i j (by omega) hj
theorem zqo {v w : CV} (h : v = w) : zfo (cvA std v) (.agg [.int .i64 w.kd, .int .u64 w.nn, .str w.tx, .lst 4 (zlp w) (zjp w)]) := by
 subst h
 show zfo (.agg [.int .i64 v.kd, .int .u64 v.nn, .str v.tx, .lst 4 (zlp v) (zjp v)]) _
 simp [zg1, zd4, zdr, zit, zds]
theorem zie (l : List CV) {v : CV} {n : Nat} {cs : List AV} (hv : v = zdp l) (hn : n = l.length) (hl : l.length <= 4) (h : cs = zvt l) :
   (okL (.lst 4 n fun i j => zbk .dead cs (i * 4 + j)) /\ ybr (rdL (.lst 4 n fun i j => zbk .dead cs (i * 4 + j)))) /\
   ∀ {w : CV}, w = zdp (rdL (.lst 4 n fun i j => zbk .dead cs (i * 4 + j))) -> zfo (cvA std v) (.agg [.int .i64 w.kd, .int .u64 w.nn, .str w.tx, .lst 4 (zlp w) (zjp w)]) := by
 obtain ⟨k1, k2⟩ := zlf l hn h
 refine ⟨⟨k2, ?_⟩, fun {w} hw => zqo ?_⟩
 · rw [k1]
   show l.length <= 1000000
   omega
 · rw [hw, k1, hv]
end Sy
end Go.Proofs.YtogpolfhcbgcbaaGreatDoor
namespace Go.Proofs.YtogpolfhcbgcbaaGreatDoor
namespace Sy
open Go Go.RowKit
set_option maxRecDepth 100000
set_option linter.unusedSimpArgs false
set_option linter.unusedVariables false
def zr4 {α : Type} (f : Nat) (ok : AV -> Prop) (rd : AV -> α) (pre : α -> Prop) (val : α -> CV) (L : za7) : zbh := (f, fun xs => match xs with
 | [x] => some (L ok x /\ L pre (L rd x), cvA L (L val (L rd x)))
 | _ => none)
def zkr {α : Type} (l : List α) : Prop := l.length <= 1000000
def zyv {α : Type} (p : α -> Prop) (l : List α) : Prop := ∀ x ∈ l, p x
def zoj {α : Type} (val : α -> CV) (l : List α) : CV := zdp (l.map val)
def zja {α : Type} (f g : Nat) (ok : AV -> Prop) (rd : AV -> List α) (pre : List α -> Prop) (val : List α -> CV) (L : za7) : zbh := (f, fun xs => match xs with
 | [x, .fn k [] []] => match zai k g with
   | true => some (L ok x /\ L zkr (L rd x) /\ L pre (L rd x), cvA L (L val (L rd x)))
   | false => none
 | _ => none)
def yhz {α : Type} (L : za7) (nth : List α -> Nat -> α) (val : α -> CV) (l : List α) : Nat -> St -> Option Ann := fun id st => match id with
 | 0 => some ⟨Nat, fun i => [(10, .int .i64 (L zaq i)), (4, .ref 4 0), (5, .sl 900 4 0 i)], fun i => [(900, .row 117 4 i (fun q j => cv1 L (L val (L (L nth l) q)) j)), (4, .box 117 [.dead, .dead, .dead, .dead])], [0, 1, 8, 9], [],
     fun i => L2 L (fun (l : List α) i => i <= l.length) l i, fun i => L2 L (fun (l : List α) (i : Nat) => l.length - i) l i⟩
 | _ => none
def zh9 (x : Rt) : CV := zdp [zjd x.h, zjd x.p, zjd x.c, zgk x.i]
def zhv (x : Ep) : CV := zdp [zjd (plB x.pl), zgk (x.w % 18446744073709551616)]
def zwr (x : Rt) : Prop := True
def zxz (x : Ep) : Prop := zyp x.pl
def ztt (l : List Rt) : CV := zoj zh9 l
def zvn (l : List Ep) : CV := zoj zhv l
def yj2 (l : List Rt) : Prop := zyv zwr l
def yd4 (l : List Ep) : Prop := zyv zxz l
theorem zwu : zaz Tryz.prog (zr4 119 yg9 yfu zwr zh9 std) := by
 intro xs p r h hp
 dsimp only [zr4] at h |-
 split at h <;> cases h
 try simp only [L2, L3, std] at hp |-
 rename_i x
 refine zyl zha hp.1 ?_
 have hp := hp.2
 show za9 _ _ _ (cvA std (zh9 (rdG rtV x)))
 have hp : zwr (rdG rtV x) := hp
 generalize rdG rtV x = y at hp |-
 refine za6 (T := tt) (S := fun L => zak [zw4 L, zx8 L, zfi L]) (lo := fun _ => noA std) (lb := noA) 5 (fn := Tryz.f119) (xs := fun L => [.agg [.str (L Rt.h y), .str (L Rt.p y), .str (L Rt.c y), .int .u64 (L Rt.i y)]]) rfl rfl (by kernel_rfl) (by kernel_rfl) rfl zaa (za2 ⟨zjc, zjg, zc8, trivial⟩) (by kernel_rfl) ?_
 intro L P' Q' hL hP hQ
 (cbv; try simp only [syT, true_and, and_true])
 (subst hL; subst hQ; simp only [L2, L3, std] at *; try simp only [syS, reduceCtorEq, Int.reduceToNat, Int.reduceAdd, Int.reduceSub] at *)
 exact ⟨(zie [zjd y.h, zjd y.p, zjd y.c, zgk y.i] (v := zh9 y) (n := 4) rfl rfl (Nat.le_of_ble_eq_true rfl) rfl).1, (zie [zjd y.h, zjd y.p, zjd y.c, zgk y.i] (v := zh9 y) (n := 4) rfl rfl (Nat.le_of_ble_eq_true rfl) rfl).2 rfl⟩
theorem zoh : zaz Tryz.prog (zr4 121 znr znj zxz zhv std) := by
 intro xs p r h hp
 dsimp only [zr4] at h |-
 split at h <;> cases h
 try simp only [L2, L3, std] at hp |-
 rename_i x
 refine zyl zew hp.1 ?_
 have hp := hp.2
 show za9 _ _ _ (cvA std (zhv (rdG epV x)))
 have hp : zxz (rdG epV x) := hp
 generalize rdG epV x = y at hp |-
 refine za6 (T := tt) (S := fun L => zak [zw4 L, zx8 L, zfi L, zoq L]) (lo := fun _ => noA std) (lb := noA) 5 (fn := Tryz.f121) (xs := fun L => [.agg [.int .u8 (L Pl.a (L Ep.pl y)), .int .u8 (L Pl.b (L Ep.pl y)), .int .u8 (L Pl.c (L Ep.pl y)), .int .u8 (L Pl.d (L Ep.pl y)), .int .u16 (L Pl.p (L Ep.pl y)), .int .i64 (L Ep.w y)]]) rfl rfl (by kernel_rfl) (by kernel_rfl) rfl zaa (za2 ⟨zjc, zjg, zc8, zn3, trivial⟩) (by kernel_rfl) ?_
 intro L P' Q' hL hP hQ
 (cbv; try simp only [syT, true_and, and_true])
 (subst hL; subst hQ; simp only [L2, L3, std] at *; try simp only [syS, reduceCtorEq, Int.reduceToNat, Int.reduceAdd, Int.reduceSub] at *)
 refine ⟨hp, (zie [zjd (plB y.pl), zgk (y.w % 18446744073709551616)] (v := zhv y) (n := 2) rfl rfl (Nat.le_of_ble_eq_true rfl) rfl).1, (zie [zjd (plB y.pl), zgk (y.w % 18446744073709551616)] (v := zhv y) (n := 2) rfl rfl (Nat.le_of_ble_eq_true rfl) rfl).2 rfl⟩
theorem zsu (ih : zaz Tryz.prog (zr4 119 yg9 yfu zwr zh9 std)) : zaz Tryz.prog (zja 118 119 yls yl9 yj2 ztt std) := by
 intro xs p r h hp
 unfold zja at h
 simp only at h
 split at h
 rotate_left
 · cases h
 rename_i x k
 cases hk : zai k 119 with
 | false => rw [hk] at h; cases h
 | true =>
 rw [hk] at h
 obtain rfl : k = 119 := of_decide_eq_true hk
 cases h
 obtain ⟨ho, hz, ha⟩ := hp
 refine ziy zha ho ?_
 have hz : zkr (rdW rtV x) := hz
 have ha : zyv zwr (rdW rtV x) := ha
 show za9 _ _ _ (cvA std (zoj zh9 (rdW rtV x)))
 generalize rdW rtV x = l at hz ha |-
 refine za6 (T := tt) (S := fun L => zak [zr4 119 yg9 yfu zwr zh9 L, zfi L]) (lo := fun L => yhz L zb8 zh9 l) (lb := noA) 5 (fn := Tryz.f118) (xs := fun L => [ygt L l, .fn 119 [] []]) rfl rfl (by kernel_rfl) (by kernel_rfl) rfl zaa
   (za2 ⟨ih, zc8, trivial⟩) (by kernel_rfl) ?_
 intro L P' Q' hL hP hQ
 (cbv; try simp only [syT, true_and, and_true])
 refine ⟨⟨0, ?_⟩, fun i hi => ?_⟩
 · (cbv; try simp only [syT, true_and, and_true])
   (subst hL; subst hQ; simp only [L2, L3, std] at *; try simp only [syS, reduceCtorEq, Int.reduceToNat, Int.reduceAdd, Int.reduceSub] at *)
   exact Nat.zero_le _
 · cbv at hi
   have hG : ∀ y : Rt, L yfu (.agg [.str (L Rt.h y), .str (L Rt.p y), .str (L Rt.c y), .int .u64 (L Rt.i y)]) = y := by subst hL; exact fun y => (gK zha y _ rfl).2
   have hO : ∀ y : Rt, L yg9 (.agg [.str (L Rt.h y), .str (L Rt.p y), .str (L Rt.c y), .int .u64 (L Rt.i y)]) := by subst hL; exact fun y => (gK zha y _ rfl).1
   (cbv; try simp only [syT, true_and, and_true])
   simp only [hG, hO, true_and]
   refine ⟨fun hlt => ⟨?_, ?_, ?_, ⟨i + 1, ?_⟩⟩, fun hge => ?_⟩
   · (subst hL; subst hQ; simp only [L2, L3, std] at *; try simp only [syS, reduceCtorEq, Int.reduceToNat, Int.reduceAdd, Int.reduceSub] at *)
     omega
   · (subst hL; subst hQ; simp only [L2, L3, std] at *; try simp only [syS, reduceCtorEq, Int.reduceToNat, Int.reduceAdd, Int.reduceSub] at *)
     exact ha _ (by rw [zb8, zb2 (V := rtV) (by have : zcd l = l.length := rfl; omega)]; exact List.getElem_mem _)
   · (subst hL; subst hQ; simp only [L2, L3, std] at *; try simp only [syS, reduceCtorEq, Int.reduceToNat, Int.reduceAdd, Int.reduceSub] at *)
     have : zcd l = l.length := rfl
     have : l.length <= 1000000 := hz
     omega
   · (cbv; try simp only [syT, true_and, and_true])
     try simp only [hG]
     (subst hL; subst hQ; simp only [L2, L3, std] at *; try simp only [syS, reduceCtorEq, Int.reduceToNat, Int.reduceAdd, Int.reduceSub] at *)
     have : zcd l = l.length := rfl
     have : l.length <= 1000000 := hz
     exact ⟨fun q j hq hj => zol (fun q => zh9 (zb8 l q)) hq hj, by omega, by omega, by omega⟩
   · (subst hL; subst hQ; simp only [L2, L3, std] at *; try simp only [syS, reduceCtorEq, Int.reduceToNat, Int.reduceAdd, Int.reduceSub] at *)
     have : zcd l = l.length := rfl
     obtain ⟨k1, k2⟩ := zjn (V := rtV) (val := zh9) (l := l) (n := i) (by omega)
     refine ⟨⟨k2, ?_⟩, zqo ?_⟩
     · show List.length _ <= 1000000
       have k1 : rdL (.lst 4 i fun q j => cv1 std (zh9 (zb8 l q)) j) = l.map zh9 := k1
       rw [k1, List.length_map]; exact hz
     · exact (congrArg zdp k1).symm
theorem zsw (ih : zaz Tryz.prog (zr4 121 znr znj zxz zhv std)) : zaz Tryz.prog (zja 120 121 zs1 zrn yd4 zvn std) := by
 intro xs p r h hp
 unfold zja at h
 simp only at h
 split at h
 rotate_left
 · cases h
 rename_i x k
 cases hk : zai k 121 with
 | false => rw [hk] at h; cases h
 | true =>
 rw [hk] at h
 obtain rfl : k = 121 := of_decide_eq_true hk
 cases h
 obtain ⟨ho, hz, ha⟩ := hp
 refine ziy zew ho ?_
 have hz : zkr (rdW epV x) := hz
 have ha : zyv zxz (rdW epV x) := ha
 show za9 _ _ _ (cvA std (zoj zhv (rdW epV x)))
 generalize rdW epV x = l at hz ha |-
 refine za6 (T := tt) (S := fun L => zak [zr4 121 znr znj zxz zhv L, zfi L]) (lo := fun L => yhz L zhj zhv l) (lb := noA) 5 (fn := Tryz.f120) (xs := fun L => [zs9 L l, .fn 121 [] []]) rfl rfl (by kernel_rfl) (by kernel_rfl) rfl zaa
   (za2 ⟨ih, zc8, trivial⟩) (by kernel_rfl) ?_
 intro L P' Q' hL hP hQ
 (cbv; try simp only [syT, true_and, and_true])
 refine ⟨⟨0, ?_⟩, fun i hi => ?_⟩
 · (cbv; try simp only [syT, true_and, and_true])
   (subst hL; subst hQ; simp only [L2, L3, std] at *; try simp only [syS, reduceCtorEq, Int.reduceToNat, Int.reduceAdd, Int.reduceSub] at *)
   exact Nat.zero_le _
 · cbv at hi
   have hG : ∀ y : Ep, L znj (.agg [.int .u8 (L Pl.a (L Ep.pl y)), .int .u8 (L Pl.b (L Ep.pl y)), .int .u8 (L Pl.c (L Ep.pl y)), .int .u8 (L Pl.d (L Ep.pl y)), .int .u16 (L Pl.p (L Ep.pl y)), .int .i64 (L Ep.w y)]) = y := by subst hL; exact fun y => (gK zew y _ rfl).2
   have hO : ∀ y : Ep, L znr (.agg [.int .u8 (L Pl.a (L Ep.pl y)), .int .u8 (L Pl.b (L Ep.pl y)), .int .u8 (L Pl.c (L Ep.pl y)), .int .u8 (L Pl.d (L Ep.pl y)), .int .u16 (L Pl.p (L Ep.pl y)), .int .i64 (L Ep.w y)]) := by subst hL; exact fun y => (gK zew y _ rfl).1
   (cbv; try simp only [syT, true_and, and_true])
   simp only [hG, hO, true_and]
   refine ⟨fun hlt => ⟨?_, ?_, ?_, ⟨i + 1, ?_⟩⟩, fun hge => ?_⟩
   · (subst hL; subst hQ; simp only [L2, L3, std] at *; try simp only [syS, reduceCtorEq, Int.reduceToNat, Int.reduceAdd, Int.reduceSub] at *)
     omega
   · (subst hL; subst hQ; simp only [L2, L3, std] at *; try simp only [syS, reduceCtorEq, Int.reduceToNat, Int.reduceAdd, Int.reduceSub] at *)
     exact ha _ (by rw [zhj, zb2 (V := epV) (by have : zcd l = l.length := rfl; omega)]; exact List.getElem_mem _)
   · (subst hL; subst hQ; simp only [L2, L3, std] at *; try simp only [syS, reduceCtorEq, Int.reduceToNat, Int.reduceAdd, Int.reduceSub] at *)
     have : zcd l = l.length := rfl
     have : l.length <= 1000000 := hz
     omega
   · (cbv; try simp only [syT, true_and, and_true])
     try simp only [hG]
     (subst hL; subst hQ; simp only [L2, L3, std] at *; try simp only [syS, reduceCtorEq, Int.reduceToNat, Int.reduceAdd, Int.reduceSub] at *)
     have : zcd l = l.length := rfl
     have : l.length <= 1000000 := hz
     exact ⟨fun q j hq hj => zol (fun q => zhv (zhj l q)) hq hj, by omega, by omega, by omega⟩
   · (subst hL; subst hQ; simp only [L2, L3, std] at *; try simp only [syS, reduceCtorEq, Int.reduceToNat, Int.reduceAdd, Int.reduceSub] at *)
     have : zcd l = l.length := rfl
     obtain ⟨k1, k2⟩ := zjn (V := epV) (val := zhv) (l := l) (n := i) (by omega)
     refine ⟨⟨k2, ?_⟩, zqo ?_⟩
     · show List.length _ <= 1000000
       have k1 : rdL (.lst 4 i fun q j => cv1 std (zhv (zhj l q)) j) = l.map zhv := k1
       rw [k1, List.length_map]; exact hz
     · exact (congrArg zdp k1).symm
def zim (x : Ls) : CV := zdp [zjd x.n, zjd (plB x.pl), ztt x.rs]
def ziv (x : Cl) : CV := zdp [zjd x.n, zvn x.es]
def zxf (x : Ls) : Prop := zyp x.pl /\ zkr x.rs
def zy3 (x : Cl) : Prop := zkr x.es /\ yd4 x.es
def ybl (l : List Ls) : CV := zoj zim l
def ydk (l : List Cl) : CV := zoj ziv l
def yjh (l : List Ls) : Prop := zyv zxf l
def yk1 (l : List Cl) : Prop := zyv zy3 l
theorem yu8 (l : List Rt) : yl9 (.lst 4 (zcd l) fun i => rtC std (zb8 l i)) = l := (zcg zha l).2
theorem yuh (l : List Rt) : yls (.lst 4 (zcd l) fun i => rtC std (zb8 l i)) := (zcg zha l).1
theorem yl7 (l : List Ep) : zrn (.lst 6 (zcd l) fun i => epC std (zhj l i)) = l := (zcg zew l).2
theorem ylr (l : List Ep) : zs1 (.lst 6 (zcd l) fun i => epC std (zhj l i)) := (zcg zew l).1
theorem yl6 (l : List Ls) : zrm (.lst 7 (zcd l) fun i => lsC std (zls l i)) = l := (zcg zd9 l).2
theorem ylq (l : List Ls) : zs0 (.lst 7 (zcd l) fun i => lsC std (zls l i)) := (zcg zd9 l).1
theorem yah (l : List Cl) : zk9 (.lst 2 (zcd l) fun i => clC std (zkh l i)) = l := (zcg zcy l).2
theorem yb0 (l : List Cl) : zkd (.lst 2 (zcd l) fun i => clC std (zkh l i)) := (zcg zcy l).1
theorem zo1 : zaz Tryz.prog (zr4 87 zhh zd6 zxf zim std) := by
 intro xs p r h hp
 dsimp only [zr4] at h |-
 split at h <;> cases h
 try simp only [L2, L3, std] at hp |-
 rename_i x
 refine zyl zd9 hp.1 ?_
 have hp := hp.2
 show za9 _ _ _ (cvA std (zim (rdG lsV x)))
 have hp : zxf (rdG lsV x) := hp
 generalize rdG lsV x = y at hp |-
 refine za6 (T := tt) (S := fun L => zak [zw4 L, zfi L, zoq L, zja 118 119 yls yl9 yj2 ztt L]) (lo := fun _ => noA std) (lb := noA) 5 (fn := Tryz.f87) (xs := fun L => [.agg [.str (L Ls.n y), .int .u8 (L Pl.a (L Ls.pl y)), .int .u8 (L Pl.b (L Ls.pl y)), .int .u8 (L Pl.c (L Ls.pl y)), .int .u8 (L Pl.d (L Ls.pl y)), .int .u16 (L Pl.p (L Ls.pl y)), ygt L (L Ls.rs y)]]) rfl rfl (by kernel_rfl) (by kernel_rfl) rfl zaa (za2 ⟨zjc, zc8, zn3, zsu zwu, trivial⟩) (by kernel_rfl) ?_
 intro L P' Q' hL hP hQ
 (cbv; try simp only [syT, true_and, and_true])
 (subst hL; subst hQ; simp only [L2, L3, std] at *; try simp only [syS, reduceCtorEq, Int.reduceToNat, Int.reduceAdd, Int.reduceSub] at *)
 simp only [yu8]
 obtain ⟨k1, k2⟩ := zie [zjd y.n, zjd (plB y.pl), ztt y.rs] (v := zim y) (n := 3) rfl rfl (Nat.le_of_ble_eq_true rfl) rfl
 exact ⟨hp.1, ⟨yuh _, hp.2, fun _ _ => trivial⟩, k1, k2 rfl⟩
theorem zqp : zaz Tryz.prog (zr4 89 zhi zhc zy3 ziv std) := by
 intro xs p r h hp
 dsimp only [zr4] at h |-
 split at h <;> cases h
 try simp only [L2, L3, std] at hp |-
 rename_i x
 refine zyl zcy hp.1 ?_
 have hp := hp.2
 show za9 _ _ _ (cvA std (ziv (rdG clV x)))
 have hp : zy3 (rdG clV x) := hp
 generalize rdG clV x = y at hp |-
 refine za6 (T := tt) (S := fun L => zak [zw4 L, zfi L, zja 120 121 zs1 zrn yd4 zvn L]) (lo := fun _ => noA std) (lb := noA) 5 (fn := Tryz.f89) (xs := fun L => [.agg [.str (L Cl.n y), zs9 L (L Cl.es y)]]) rfl rfl (by kernel_rfl) (by kernel_rfl) rfl zaa (za2 ⟨zjc, zc8, zsw zoh, trivial⟩) (by kernel_rfl) ?_
 intro L P' Q' hL hP hQ
 (cbv; try simp only [syT, true_and, and_true])
 (subst hL; subst hQ; simp only [L2, L3, std] at *; try simp only [syS, reduceCtorEq, Int.reduceToNat, Int.reduceAdd, Int.reduceSub] at *)
 simp only [yl7]
 obtain ⟨k1, k2⟩ := zie [zjd y.n, zvn y.es] (v := ziv y) (n := 2) rfl rfl (Nat.le_of_ble_eq_true rfl) rfl
 exact ⟨⟨ylr _, hp.1, hp.2⟩, k1, k2 rfl⟩
theorem zsv (ih : zaz Tryz.prog (zr4 87 zhh zd6 zxf zim std)) : zaz Tryz.prog (zja 86 87 zs0 zrm yjh ybl std) := by
 intro xs p r h hp
 unfold zja at h
 simp only at h
 split at h
 rotate_left
 · cases h
 rename_i x k
 cases hk : zai k 87 with
 | false => rw [hk] at h; cases h
 | true =>
 rw [hk] at h
 obtain rfl : k = 87 := of_decide_eq_true hk
 cases h
 obtain ⟨ho, hz, ha⟩ := hp
 refine ziy zd9 ho ?_
 have hz : zkr (rdW lsV x) := hz
 have ha : zyv zxf (rdW lsV x) := ha
 show za9 _ _ _ (cvA std (zoj zim (rdW lsV x)))
 generalize rdW lsV x = l at hz ha |-
 refine za6 (T := tt) (S := fun L => zak [zr4 87 zhh zd6 zxf zim L, zfi L]) (lo := fun L => yhz L zls zim l) (lb := noA) 5 (fn := Tryz.f86) (xs := fun L => [zs8 L l, .fn 87 [] []]) rfl rfl (by kernel_rfl) (by kernel_rfl) rfl zaa
   (za2 ⟨ih, zc8, trivial⟩) (by kernel_rfl) ?_
 intro L P' Q' hL hP hQ
 (cbv; try simp only [syT, true_and, and_true])
 refine ⟨⟨0, ?_⟩, fun i hi => ?_⟩
 · (cbv; try simp only [syT, true_and, and_true])
   (subst hL; subst hQ; simp only [L2, L3, std] at *; try simp only [syS, reduceCtorEq, Int.reduceToNat, Int.reduceAdd, Int.reduceSub] at *)
   exact Nat.zero_le _
 · cbv at hi
   have hG : ∀ y : Ls, L zd6 (.agg [.str (L Ls.n y), .int .u8 (L Pl.a (L Ls.pl y)), .int .u8 (L Pl.b (L Ls.pl y)), .int .u8 (L Pl.c (L Ls.pl y)), .int .u8 (L Pl.d (L Ls.pl y)), .int .u16 (L Pl.p (L Ls.pl y)), .lst 4 (L zcd (L Ls.rs y)) (fun i => rtC L (L (L zb8 (L Ls.rs y)) i))]) = y := by subst hL; exact fun y => (gK zd9 y _ rfl).2
   have hO : ∀ y : Ls, L zhh (.agg [.str (L Ls.n y), .int .u8 (L Pl.a (L Ls.pl y)), .int .u8 (L Pl.b (L Ls.pl y)), .int .u8 (L Pl.c (L Ls.pl y)), .int .u8 (L Pl.d (L Ls.pl y)), .int .u16 (L Pl.p (L Ls.pl y)), .lst 4 (L zcd (L Ls.rs y)) (fun i => rtC L (L (L zb8 (L Ls.rs y)) i))]) := by subst hL; exact fun y => (gK zd9 y _ rfl).1
   (cbv; try simp only [syT, true_and, and_true])
   simp only [hG, hO, true_and]
   refine ⟨fun hlt => ⟨?_, ?_, ?_, ⟨i + 1, ?_⟩⟩, fun hge => ?_⟩
   · (subst hL; subst hQ; simp only [L2, L3, std] at *; try simp only [syS, reduceCtorEq, Int.reduceToNat, Int.reduceAdd, Int.reduceSub] at *)
     omega
   · (subst hL; subst hQ; simp only [L2, L3, std] at *; try simp only [syS, reduceCtorEq, Int.reduceToNat, Int.reduceAdd, Int.reduceSub] at *)
     exact ha _ (by rw [zls, zb2 (V := lsV) (by have : zcd l = l.length := rfl; omega)]; exact List.getElem_mem _)
   · (subst hL; subst hQ; simp only [L2, L3, std] at *; try simp only [syS, reduceCtorEq, Int.reduceToNat, Int.reduceAdd, Int.reduceSub] at *)
     have : zcd l = l.length := rfl
     have : l.length <= 1000000 := hz
     omega
   · (cbv; try simp only [syT, true_and, and_true])
     try simp only [hG]
     (subst hL; subst hQ; simp only [L2, L3, std] at *; try simp only [syS, reduceCtorEq, Int.reduceToNat, Int.reduceAdd, Int.reduceSub] at *)
     have : zcd l = l.length := rfl
     have : l.length <= 1000000 := hz
     exact ⟨fun q j hq hj => zol (fun q => zim (zls l q)) hq hj, by omega, by omega, by omega⟩
   · (subst hL; subst hQ; simp only [L2, L3, std] at *; try simp only [syS, reduceCtorEq, Int.reduceToNat, Int.reduceAdd, Int.reduceSub] at *)
     have : zcd l = l.length := rfl
     obtain ⟨k1, k2⟩ := zjn (V := lsV) (val := zim) (l := l) (n := i) (by omega)
     refine ⟨⟨k2, ?_⟩, zqo ?_⟩
     · show List.length _ <= 1000000
       have k1 : rdL (.lst 4 i fun q j => cv1 std (zim (zls l q)) j) = l.map zim := k1
       rw [k1, List.length_map]; exact hz
     · exact (congrArg zdp k1).symm
theorem zsx (ih : zaz Tryz.prog (zr4 89 zhi zhc zy3 ziv std)) : zaz Tryz.prog (zja 88 89 zkd zk9 yk1 ydk std) := by
 intro xs p r h hp
 unfold zja at h
 simp only at h
 split at h
 rotate_left
 · cases h
 rename_i x k
 cases hk : zai k 89 with
 | false => rw [hk] at h; cases h
 | true =>
 rw [hk] at h
 obtain rfl : k = 89 := of_decide_eq_true hk
 cases h
 obtain ⟨ho, hz, ha⟩ := hp
 refine ziy zcy ho ?_
 have hz : zkr (rdW clV x) := hz
 have ha : zyv zy3 (rdW clV x) := ha
 show za9 _ _ _ (cvA std (zoj ziv (rdW clV x)))
 generalize rdW clV x = l at hz ha |-
 refine za6 (T := tt) (S := fun L => zak [zr4 89 zhi zhc zy3 ziv L, zfi L]) (lo := fun L => yhz L zkh ziv l) (lb := noA) 5 (fn := Tryz.f88) (xs := fun L => [zo0 L l, .fn 89 [] []]) rfl rfl (by kernel_rfl) (by kernel_rfl) rfl zaa
   (za2 ⟨ih, zc8, trivial⟩) (by kernel_rfl) ?_
 intro L P' Q' hL hP hQ
 (cbv; try simp only [syT, true_and, and_true])
 refine ⟨⟨0, ?_⟩, fun i hi => ?_⟩
 · (cbv; try simp only [syT, true_and, and_true])
   (subst hL; subst hQ; simp only [L2, L3, std] at *; try simp only [syS, reduceCtorEq, Int.reduceToNat, Int.reduceAdd, Int.reduceSub] at *)
   exact Nat.zero_le _
 · cbv at hi
   have hG : ∀ y : Cl, L zhc (.agg [.str (L Cl.n y), .lst 6 (L zcd (L Cl.es y)) (fun i => epC L (L (L zhj (L Cl.es y)) i))]) = y := by subst hL; exact fun y => (gK zcy y _ rfl).2
   have hO : ∀ y : Cl, L zhi (.agg [.str (L Cl.n y), .lst 6 (L zcd (L Cl.es y)) (fun i => epC L (L (L zhj (L Cl.es y)) i))]) := by subst hL; exact fun y => (gK zcy y _ rfl).1
   (cbv; try simp only [syT, true_and, and_true])
   simp only [hG, hO, true_and]
   refine ⟨fun hlt => ⟨?_, ?_, ?_, ⟨i + 1, ?_⟩⟩, fun hge => ?_⟩
   · (subst hL; subst hQ; simp only [L2, L3, std] at *; try simp only [syS, reduceCtorEq, Int.reduceToNat, Int.reduceAdd, Int.reduceSub] at *)
     omega
   · (subst hL; subst hQ; simp only [L2, L3, std] at *; try simp only [syS, reduceCtorEq, Int.reduceToNat, Int.reduceAdd, Int.reduceSub] at *)
     exact ha _ (by rw [zkh, zb2 (V := clV) (by have : zcd l = l.length := rfl; omega)]; exact List.getElem_mem _)
   · (subst hL; subst hQ; simp only [L2, L3, std] at *; try simp only [syS, reduceCtorEq, Int.reduceToNat, Int.reduceAdd, Int.reduceSub] at *)
     have : zcd l = l.length := rfl
     have : l.length <= 1000000 := hz
     omega
   · (cbv; try simp only [syT, true_and, and_true])
     try simp only [hG]
     (subst hL; subst hQ; simp only [L2, L3, std] at *; try simp only [syS, reduceCtorEq, Int.reduceToNat, Int.reduceAdd, Int.reduceSub] at *)
     have : zcd l = l.length := rfl
     have : l.length <= 1000000 := hz
     exact ⟨fun q j hq hj => zol (fun q => ziv (zkh l q)) hq hj, by omega, by omega, by omega⟩
   · (subst hL; subst hQ; simp only [L2, L3, std] at *; try simp only [syS, reduceCtorEq, Int.reduceToNat, Int.reduceAdd, Int.reduceSub] at *)
     have : zcd l = l.length := rfl
     obtain ⟨k1, k2⟩ := zjn (V := clV) (val := ziv) (l := l) (n := i) (by omega)
     refine ⟨⟨k2, ?_⟩, zqo ?_⟩
     · show List.length _ <= 1000000
       have k1 : rdL (.lst 4 i fun q j => cv1 std (ziv (zkh l q)) j) = l.map ziv := k1
       rw [k1, List.length_map]; exact hz
     · exact (congrArg zdp k1).symm
end Sy
end Go.Proofs.YtogpolfhcbgcbaaGreatDoor
namespace Go.Proofs.YtogpolfhcbgcbaaGreatDoor
namespace Sy
open Go Go.RowKit
set_option maxRecDepth 100000
set_option linter.unusedSimpArgs false
set_option linter.unusedVariables false
def prS {α : Type} (f : Nat) (ok : AV -> Prop) (rd : AV -> α) (p : α -> Bool) (pre : α -> Prop) (L : za7) : zbh := (f, fun xs => match xs with
 | [x] => some (L ok x /\ L pre (L rd x), .bool (L p (L rd x)))
 | _ => none)
def zyq {α : Type} (f g : Nat) (ok : AV -> Prop) (rd : AV -> List α) (idx : List α -> Int) (pre : List α -> Prop) (L : za7) : zbh := (f, fun xs => match xs with
 | [x, .fn k [] []] => match zai k g with
   | true => some (L ok x /\ L zkr (L rd x) /\ L pre (L rd x), .int .i64 (L idx (L rd x)))
   | false => none
 | _ => none)
def zyu {α : Type} (f g : Nat) (ok : AV -> Prop) (rd : AV -> List α) (any : List α -> Bool) (pre : List α -> Prop) (L : za7) : zbh := (f, fun xs => match xs with
 | [x, .fn k [] []] => match zai k g with
   | true => some (L ok x /\ L zkr (L rd x) /\ L pre (L rd x), .bool (L any (L rd x)))
   | false => none
 | _ => none)
def ixA {α : Type} (L : za7) (none : List α -> Nat -> Prop) (l : List α) : Nat -> St -> Option Ann := fun id st => match id with
 | 0 => some ⟨Nat, fun i => [(8, .int .i64 (L zaq i))], fun i => [], [0, 1, 6, 7], [],
     fun i => L2 L none l i, fun i => L2 L (fun (l : List α) (i : Nat) => l.length - i) l i⟩
 | _ => Option.none
theorem zv8 (a b : Int) : ile a b = decide (a <= b) := by simp [ile]
def zgu (x : Ls) : Bool := decide (8 < x.rs.length)
def zik (x : Cl) : Bool := decide (8 < x.es.length)
def zy6 (x : Ep) : Bool := decide (x.w < 0)
def zyt (x : Cl) : Bool := x.es.any zy6
def zx2 (x : Ls) : Prop := True
def zx3 (x : Cl) : Prop := True
def zx4 (x : Ep) : Prop := True
def zrs (x : Cl) : Prop := zkr x.es
theorem ylz : zaz Tryz.prog (prS 104 zhh zd6 zgu zx2 std) := by
 intro xs p r h hp
 dsimp only [prS] at h |-
 split at h <;> cases h
 try simp only [L2, L3, std] at hp |-
 rename_i x
 refine zyl zd9 hp.1 ?_
 have hp := hp.2
 show za9 _ _ _ (.bool (zgu (rdG lsV x)))
 have hp : zx2 (rdG lsV x) := hp
 generalize rdG lsV x = y at hp |-
 refine za6 (T := tt) (S := noS) (lo := fun _ => noA std) (lb := noA) 5 (fn := Tryz.f104) (xs := fun L => [.agg [.str (L Ls.n y), .int .u8 (L Pl.a (L Ls.pl y)), .int .u8 (L Pl.b (L Ls.pl y)), .int .u8 (L Pl.c (L Ls.pl y)), .int .u8 (L Pl.d (L Ls.pl y)), .int .u16 (L Pl.p (L Ls.pl y)), ygt L (L Ls.rs y)]]) rfl rfl (by kernel_rfl) (by kernel_rfl) rfl zaa (zbx _) (by kernel_rfl) ?_
 intro L P' Q' hL hP hQ
 (cbv; try simp only [syT, true_and, and_true])
 (subst hL; subst hQ; simp only [L2, L3, std] at *; try simp only [syS, reduceCtorEq, Int.reduceToNat, Int.reduceAdd, Int.reduceSub] at *)
 show ilt 8 ((y.rs.length : Nat) : Int) = _
 simp only [ilt, zgu]
 congr 1
 simp
 omega
theorem ym0 : zaz Tryz.prog (prS 106 zhi zhc zik zx3 std) := by
 intro xs p r h hp
 dsimp only [prS] at h |-
 split at h <;> cases h
 try simp only [L2, L3, std] at hp |-
 rename_i x
 refine zyl zcy hp.1 ?_
 have hp := hp.2
 show za9 _ _ _ (.bool (zik (rdG clV x)))
 have hp : zx3 (rdG clV x) := hp
 generalize rdG clV x = y at hp |-
 refine za6 (T := tt) (S := noS) (lo := fun _ => noA std) (lb := noA) 5 (fn := Tryz.f106) (xs := fun L => [.agg [.str (L Cl.n y), zs9 L (L Cl.es y)]]) rfl rfl (by kernel_rfl) (by kernel_rfl) rfl zaa (zbx _) (by kernel_rfl) ?_
 intro L P' Q' hL hP hQ
 (cbv; try simp only [syT, true_and, and_true])
 (subst hL; subst hQ; simp only [L2, L3, std] at *; try simp only [syS, reduceCtorEq, Int.reduceToNat, Int.reduceAdd, Int.reduceSub] at *)
 show ilt 8 ((y.es.length : Nat) : Int) = _
 simp only [ilt, zik]
 congr 1
 simp
 omega
theorem yol : zaz Tryz.prog (prS 109 znr znj zy6 zx4 std) := by
 intro xs p r h hp
 dsimp only [prS] at h |-
 split at h <;> cases h
 try simp only [L2, L3, std] at hp |-
 rename_i x
 refine zyl zew hp.1 ?_
 have hp := hp.2
 show za9 _ _ _ (.bool (zy6 (rdG epV x)))
 have hp : zx4 (rdG epV x) := hp
 generalize rdG epV x = y at hp |-
 refine za6 (T := tt) (S := noS) (lo := fun _ => noA std) (lb := noA) 5 (fn := Tryz.f109) (xs := fun L => [.agg [.int .u8 (L Pl.a (L Ep.pl y)), .int .u8 (L Pl.b (L Ep.pl y)), .int .u8 (L Pl.c (L Ep.pl y)), .int .u8 (L Pl.d (L Ep.pl y)), .int .u16 (L Pl.p (L Ep.pl y)), .int .i64 (L Ep.w y)]]) rfl rfl (by kernel_rfl) (by kernel_rfl) rfl zaa (zbx _) (by kernel_rfl) ?_
 intro L P' Q' hL hP hQ
 (cbv; try simp only [syT, true_and, and_true])
 (subst hL; subst hQ; simp only [L2, L3, std] at *; try simp only [syS, reduceCtorEq, Int.reduceToNat, Int.reduceAdd, Int.reduceSub] at *)
 simp [ilt, zy6]
def yrg (l : List Ls) : Int := zge zgu l
def yik (l : List Ls) : Bool := l.any zgu
def yql (l : List Ls) (i : Nat) : Prop := zlu zgu l i
def zm9 (l : List Ls) : Prop := zyv zx2 l
theorem zxn (ih : zaz Tryz.prog (prS 104 zhh zd6 zgu zx2 std)) : zaz Tryz.prog (zyq 130 104 zs0 zrm yrg zm9 std) := by
 intro xs p r h hp
 unfold zyq at h
 simp only at h
 split at h
 rotate_left
 · cases h
 rename_i x k
 cases hk : zai k 104 with
 | false => rw [hk] at h; cases h
 | true =>
 rw [hk] at h
 obtain rfl : k = 104 := of_decide_eq_true hk
 cases h
 obtain ⟨ho, hz, ha⟩ := hp
 refine ziy zd9 ho ?_
 have hz : zkr (rdW lsV x) := hz
 have ha : zm9 (rdW lsV x) := ha
 show za9 _ _ _ (.int .i64 (zge zgu (rdW lsV x)))
 generalize rdW lsV x = l at hz ha |-
 refine za6 (T := tt) (S := fun L => zak [prS 104 zhh zd6 zgu zx2 L]) (lo := fun L => ixA L yql l) (lb := noA) 5 (fn := Tryz.f130) (xs := fun L => [zs8 L l, .fn 104 [] []]) rfl rfl (by kernel_rfl) (by kernel_rfl) rfl zaa
   (za2 ⟨ih, trivial⟩) (by kernel_rfl) ?_
 intro L P' Q' hL hP hQ
 (cbv; try simp only [syT, true_and, and_true])
 refine ⟨⟨0, ?_⟩, fun i hi => ?_⟩
 · (cbv; try simp only [syT, true_and, and_true])
   (subst hL; subst hQ; simp only [L2, L3, std] at *; try simp only [syS, reduceCtorEq, Int.reduceToNat, Int.reduceAdd, Int.reduceSub] at *)
   exact zkj _ _
 · cbv at hi
   have hG : ∀ y : Ls, L zd6 (.agg [.str (L Ls.n y), .int .u8 (L Pl.a (L Ls.pl y)), .int .u8 (L Pl.b (L Ls.pl y)), .int .u8 (L Pl.c (L Ls.pl y)), .int .u8 (L Pl.d (L Ls.pl y)), .int .u16 (L Pl.p (L Ls.pl y)), .lst 4 (L zcd (L Ls.rs y)) (fun i => rtC L (L (L zb8 (L Ls.rs y)) i))]) = y := by subst hL; exact fun y => (gK zd9 y _ rfl).2
   have hO : ∀ y : Ls, L zhh (.agg [.str (L Ls.n y), .int .u8 (L Pl.a (L Ls.pl y)), .int .u8 (L Pl.b (L Ls.pl y)), .int .u8 (L Pl.c (L Ls.pl y)), .int .u8 (L Pl.d (L Ls.pl y)), .int .u16 (L Pl.p (L Ls.pl y)), .lst 4 (L zcd (L Ls.rs y)) (fun i => rtC L (L (L zb8 (L Ls.rs y)) i))]) := by subst hL; exact fun y => (gK zd9 y _ rfl).1
   (cbv; try simp only [syT, true_and, and_true])
   simp only [hG, hO, true_and]
   have hw : zcd l = l.length := rfl
   have hz : l.length <= 1000000 := hz
   refine ⟨fun hlt => ⟨?_, ?_, fun hb => ?_, fun hb => ⟨i + 1, ?_⟩⟩, fun hge => ?_⟩
   · (subst hL; subst hQ; simp only [L2, L3, std] at *; try simp only [syS, reduceCtorEq, Int.reduceToNat, Int.reduceAdd, Int.reduceSub] at *)
     omega
   · (subst hL; subst hQ; simp only [L2, L3, std] at *; try simp only [syS, reduceCtorEq, Int.reduceToNat, Int.reduceAdd, Int.reduceSub] at *)
     exact ha _ (by rw [zls, zb2 (V := lsV) (by omega)]; exact List.getElem_mem _)
   · (subst hL; subst hQ; simp only [L2, L3, std] at *; try simp only [syS, reduceCtorEq, Int.reduceToNat, Int.reduceAdd, Int.reduceSub] at *)
     exact (zft (V := lsV) hi (by omega) hb).symm
   · (cbv; try simp only [syT, true_and, and_true])
     try simp only [hG]
     (subst hL; subst hQ; simp only [L2, L3, std] at *; try simp only [syS, reduceCtorEq, Int.reduceToNat, Int.reduceAdd, Int.reduceSub] at *)
     exact ⟨by omega, zer (V := lsV) hi (by omega) hb, by omega⟩
   · (subst hL; subst hQ; simp only [L2, L3, std] at *; try simp only [syS, reduceCtorEq, Int.reduceToNat, Int.reduceAdd, Int.reduceSub] at *)
     exact (zfu hi (by omega)).symm
theorem zyg (ih : zaz Tryz.prog (prS 104 zhh zd6 zgu zx2 std)) : zaz Tryz.prog (zyu 103 104 zs0 zrm yik zm9 std) := by
 intro xs p r h hp
 unfold zyu at h
 simp only at h
 split at h
 rotate_left
 · cases h
 rename_i x k
 cases hk : zai k 104 with
 | false => rw [hk] at h; cases h
 | true =>
 rw [hk] at h
 obtain rfl : k = 104 := of_decide_eq_true hk
 cases h
 obtain ⟨ho, hz, ha⟩ := hp
 refine ziy zd9 ho ?_
 have hz : zkr (rdW lsV x) := hz
 have ha : zm9 (rdW lsV x) := ha
 show za9 _ _ _ (.bool (yik (rdW lsV x)))
 generalize rdW lsV x = l at hz ha |-
 refine za6 (T := tt) (S := fun L => zak [zyq 130 104 zs0 zrm yrg zm9 L]) (lo := fun _ => noA std) (lb := noA) 5 (fn := Tryz.f103) (xs := fun L => [zs8 L l, .fn 104 [] []]) rfl rfl (by kernel_rfl) (by kernel_rfl) rfl zaa
   (za2 ⟨zxn ih, trivial⟩) (by kernel_rfl) ?_
 intro L P' Q' hL hP hQ
 (cbv; try simp only [syT, true_and, and_true])
 (subst hL; subst hQ; simp only [L2, L3, std] at *; try simp only [syS, reduceCtorEq, Int.reduceToNat, Int.reduceAdd, Int.reduceSub] at *)
 simp only [yl6]
 refine ⟨⟨ylq _, hz, ha⟩, ?_⟩
 have := zgd zgu l
 rw [zv8, show yik l = l.any zgu from rfl, <- this]; rfl
def yrh (l : List Cl) : Int := zge zik l
def yil (l : List Cl) : Bool := l.any zik
def yqm (l : List Cl) (i : Nat) : Prop := zlu zik l i
def zma (l : List Cl) : Prop := zyv zx3 l
theorem zxo (ih : zaz Tryz.prog (prS 106 zhi zhc zik zx3 std)) : zaz Tryz.prog (zyq 131 106 zkd zk9 yrh zma std) := by
 intro xs p r h hp
 unfold zyq at h
 simp only at h
 split at h
 rotate_left
 · cases h
 rename_i x k
 cases hk : zai k 106 with
 | false => rw [hk] at h; cases h
 | true =>
 rw [hk] at h
 obtain rfl : k = 106 := of_decide_eq_true hk
 cases h
 obtain ⟨ho, hz, ha⟩ := hp
 refine ziy zcy ho ?_
 have hz : zkr (rdW clV x) := hz
 have ha : zma (rdW clV x) := ha
 show za9 _ _ _ (.int .i64 (zge zik (rdW clV x)))
 generalize rdW clV x = l at hz ha |-
 refine za6 (T := tt) (S := fun L => zak [prS 106 zhi zhc zik zx3 L]) (lo := fun L => ixA L yqm l) (lb := noA) 5 (fn := Tryz.f131) (xs := fun L => [zo0 L l, .fn 106 [] []]) rfl rfl (by kernel_rfl) (by kernel_rfl) rfl zaa
   (za2 ⟨ih, trivial⟩) (by kernel_rfl) ?_
 intro L P' Q' hL hP hQ
 (cbv; try simp only [syT, true_and, and_true])
 refine ⟨⟨0, ?_⟩, fun i hi => ?_⟩
 · (cbv; try simp only [syT, true_and, and_true])
   (subst hL; subst hQ; simp only [L2, L3, std] at *; try simp only [syS, reduceCtorEq, Int.reduceToNat, Int.reduceAdd, Int.reduceSub] at *)
   exact zkj _ _
 · cbv at hi
   have hG : ∀ y : Cl, L zhc (.agg [.str (L Cl.n y), .lst 6 (L zcd (L Cl.es y)) (fun i => epC L (L (L zhj (L Cl.es y)) i))]) = y := by subst hL; exact fun y => (gK zcy y _ rfl).2
   have hO : ∀ y : Cl, L zhi (.agg [.str (L Cl.n y), .lst 6 (L zcd (L Cl.es y)) (fun i => epC L (L (L zhj (L Cl.es y)) i))]) := by subst hL; exact fun y => (gK zcy y _ rfl).1
   (cbv; try simp only [syT, true_and, and_true])
   simp only [hG, hO, true_and]
   have hw : zcd l = l.length := rfl
   have hz : l.length <= 1000000 := hz
   refine ⟨fun hlt => ⟨?_, ?_, fun hb => ?_, fun hb => ⟨i + 1, ?_⟩⟩, fun hge => ?_⟩
   · (subst hL; subst hQ; simp only [L2, L3, std] at *; try simp only [syS, reduceCtorEq, Int.reduceToNat, Int.reduceAdd, Int.reduceSub] at *)
     omega
   · (subst hL; subst hQ; simp only [L2, L3, std] at *; try simp only [syS, reduceCtorEq, Int.reduceToNat, Int.reduceAdd, Int.reduceSub] at *)
     exact ha _ (by rw [zkh, zb2 (V := clV) (by omega)]; exact List.getElem_mem _)
   · (subst hL; subst hQ; simp only [L2, L3, std] at *; try simp only [syS, reduceCtorEq, Int.reduceToNat, Int.reduceAdd, Int.reduceSub] at *)
     exact (zft (V := clV) hi (by omega) hb).symm
   · (cbv; try simp only [syT, true_and, and_true])
     try simp only [hG]
     (subst hL; subst hQ; simp only [L2, L3, std] at *; try simp only [syS, reduceCtorEq, Int.reduceToNat, Int.reduceAdd, Int.reduceSub] at *)
     exact ⟨by omega, zer (V := clV) hi (by omega) hb, by omega⟩
   · (subst hL; subst hQ; simp only [L2, L3, std] at *; try simp only [syS, reduceCtorEq, Int.reduceToNat, Int.reduceAdd, Int.reduceSub] at *)
     exact (zfu hi (by omega)).symm
theorem zyh (ih : zaz Tryz.prog (prS 106 zhi zhc zik zx3 std)) : zaz Tryz.prog (zyu 105 106 zkd zk9 yil zma std) := by
 intro xs p r h hp
 unfold zyu at h
 simp only at h
 split at h
 rotate_left
 · cases h
 rename_i x k
 cases hk : zai k 106 with
 | false => rw [hk] at h; cases h
 | true =>
 rw [hk] at h
 obtain rfl : k = 106 := of_decide_eq_true hk
 cases h
 obtain ⟨ho, hz, ha⟩ := hp
 refine ziy zcy ho ?_
 have hz : zkr (rdW clV x) := hz
 have ha : zma (rdW clV x) := ha
 show za9 _ _ _ (.bool (yil (rdW clV x)))
 generalize rdW clV x = l at hz ha |-
 refine za6 (T := tt) (S := fun L => zak [zyq 131 106 zkd zk9 yrh zma L]) (lo := fun _ => noA std) (lb := noA) 5 (fn := Tryz.f105) (xs := fun L => [zo0 L l, .fn 106 [] []]) rfl rfl (by kernel_rfl) (by kernel_rfl) rfl zaa
   (za2 ⟨zxo ih, trivial⟩) (by kernel_rfl) ?_
 intro L P' Q' hL hP hQ
 (cbv; try simp only [syT, true_and, and_true])
 (subst hL; subst hQ; simp only [L2, L3, std] at *; try simp only [syS, reduceCtorEq, Int.reduceToNat, Int.reduceAdd, Int.reduceSub] at *)
 simp only [yah]
 refine ⟨⟨yb0 _, hz, ha⟩, ?_⟩
 have := zgd zik l
 rw [zv8, show yil l = l.any zik from rfl, <- this]; rfl
def yri (l : List Ep) : Int := zge zy6 l
def yim (l : List Ep) : Bool := l.any zy6
def yqn (l : List Ep) (i : Nat) : Prop := zlu zy6 l i
def zmb (l : List Ep) : Prop := zyv zx4 l
theorem zxp (ih : zaz Tryz.prog (prS 109 znr znj zy6 zx4 std)) : zaz Tryz.prog (zyq 132 109 zs1 zrn yri zmb std) := by
 intro xs p r h hp
 unfold zyq at h
 simp only at h
 split at h
 rotate_left
 · cases h
 rename_i x k
 cases hk : zai k 109 with
 | false => rw [hk] at h; cases h
 | true =>
 rw [hk] at h
 obtain rfl : k = 109 := of_decide_eq_true hk
 cases h
 obtain ⟨ho, hz, ha⟩ := hp
 refine ziy zew ho ?_
 have hz : zkr (rdW epV x) := hz
 have ha : zmb (rdW epV x) := ha
 show za9 _ _ _ (.int .i64 (zge zy6 (rdW epV x)))
 generalize rdW epV x = l at hz ha |-
 refine za6 (T := tt) (S := fun L => zak [prS 109 znr znj zy6 zx4 L]) (lo := fun L => ixA L yqn l) (lb := noA) 5 (fn := Tryz.f132) (xs := fun L => [zs9 L l, .fn 109 [] []]) rfl rfl (by kernel_rfl) (by kernel_rfl) rfl zaa
   (za2 ⟨ih, trivial⟩) (by kernel_rfl) ?_
 intro L P' Q' hL hP hQ
 (cbv; try simp only [syT, true_and, and_true])
 refine ⟨⟨0, ?_⟩, fun i hi => ?_⟩
 · (cbv; try simp only [syT, true_and, and_true])
   (subst hL; subst hQ; simp only [L2, L3, std] at *; try simp only [syS, reduceCtorEq, Int.reduceToNat, Int.reduceAdd, Int.reduceSub] at *)
   exact zkj _ _
 · cbv at hi
   have hG : ∀ y : Ep, L znj (.agg [.int .u8 (L Pl.a (L Ep.pl y)), .int .u8 (L Pl.b (L Ep.pl y)), .int .u8 (L Pl.c (L Ep.pl y)), .int .u8 (L Pl.d (L Ep.pl y)), .int .u16 (L Pl.p (L Ep.pl y)), .int .i64 (L Ep.w y)]) = y := by subst hL; exact fun y => (gK zew y _ rfl).2
   have hO : ∀ y : Ep, L znr (.agg [.int .u8 (L Pl.a (L Ep.pl y)), .int .u8 (L Pl.b (L Ep.pl y)), .int .u8 (L Pl.c (L Ep.pl y)), .int .u8 (L Pl.d (L Ep.pl y)), .int .u16 (L Pl.p (L Ep.pl y)), .int .i64 (L Ep.w y)]) := by subst hL; exact fun y => (gK zew y _ rfl).1
   (cbv; try simp only [syT, true_and, and_true])
   simp only [hG, hO, true_and]
   have hw : zcd l = l.length := rfl
   have hz : l.length <= 1000000 := hz
   refine ⟨fun hlt => ⟨?_, ?_, fun hb => ?_, fun hb => ⟨i + 1, ?_⟩⟩, fun hge => ?_⟩
   · (subst hL; subst hQ; simp only [L2, L3, std] at *; try simp only [syS, reduceCtorEq, Int.reduceToNat, Int.reduceAdd, Int.reduceSub] at *)
     omega
   · (subst hL; subst hQ; simp only [L2, L3, std] at *; try simp only [syS, reduceCtorEq, Int.reduceToNat, Int.reduceAdd, Int.reduceSub] at *)
     exact ha _ (by rw [zhj, zb2 (V := epV) (by omega)]; exact List.getElem_mem _)
   · (subst hL; subst hQ; simp only [L2, L3, std] at *; try simp only [syS, reduceCtorEq, Int.reduceToNat, Int.reduceAdd, Int.reduceSub] at *)
     exact (zft (V := epV) hi (by omega) hb).symm
   · (cbv; try simp only [syT, true_and, and_true])
     try simp only [hG]
     (subst hL; subst hQ; simp only [L2, L3, std] at *; try simp only [syS, reduceCtorEq, Int.reduceToNat, Int.reduceAdd, Int.reduceSub] at *)
     exact ⟨by omega, zer (V := epV) hi (by omega) hb, by omega⟩
   · (subst hL; subst hQ; simp only [L2, L3, std] at *; try simp only [syS, reduceCtorEq, Int.reduceToNat, Int.reduceAdd, Int.reduceSub] at *)
     exact (zfu hi (by omega)).symm
theorem zyi (ih : zaz Tryz.prog (prS 109 znr znj zy6 zx4 std)) : zaz Tryz.prog (zyu 108 109 zs1 zrn yim zmb std) := by
 intro xs p r h hp
 unfold zyu at h
 simp only at h
 split at h
 rotate_left
 · cases h
 rename_i x k
 cases hk : zai k 109 with
 | false => rw [hk] at h; cases h
 | true =>
 rw [hk] at h
 obtain rfl : k = 109 := of_decide_eq_true hk
 cases h
 obtain ⟨ho, hz, ha⟩ := hp
 refine ziy zew ho ?_
 have hz : zkr (rdW epV x) := hz
 have ha : zmb (rdW epV x) := ha
 show za9 _ _ _ (.bool (yim (rdW epV x)))
 generalize rdW epV x = l at hz ha |-
 refine za6 (T := tt) (S := fun L => zak [zyq 132 109 zs1 zrn yri zmb L]) (lo := fun _ => noA std) (lb := noA) 5 (fn := Tryz.f108) (xs := fun L => [zs9 L l, .fn 109 [] []]) rfl rfl (by kernel_rfl) (by kernel_rfl) rfl zaa
   (za2 ⟨zxp ih, trivial⟩) (by kernel_rfl) ?_
 intro L P' Q' hL hP hQ
 (cbv; try simp only [syT, true_and, and_true])
 (subst hL; subst hQ; simp only [L2, L3, std] at *; try simp only [syS, reduceCtorEq, Int.reduceToNat, Int.reduceAdd, Int.reduceSub] at *)
 simp only [yl7]
 refine ⟨⟨ylr _, hz, ha⟩, ?_⟩
 have := zgd zy6 l
 rw [zv8, show yim l = l.any zy6 from rfl, <- this]; rfl
theorem yom : zaz Tryz.prog (prS 107 zhi zhc zyt zrs std) := by
 intro xs p r h hp
 dsimp only [prS] at h |-
 split at h <;> cases h
 try simp only [L2, L3, std] at hp |-
 rename_i x
 refine zyl zcy hp.1 ?_
 have hp := hp.2
 show za9 _ _ _ (.bool (zyt (rdG clV x)))
 have hp : zrs (rdG clV x) := hp
 generalize rdG clV x = y at hp |-
 refine za6 (T := tt) (S := fun L => zak [zyu 108 109 zs1 zrn yim zmb L]) (lo := fun _ => noA std) (lb := noA) 5 (fn := Tryz.f107) (xs := fun L => [.agg [.str (L Cl.n y), zs9 L (L Cl.es y)]]) rfl rfl (by kernel_rfl) (by kernel_rfl) rfl zaa (za2 ⟨zyi yol, trivial⟩) (by kernel_rfl) ?_
 intro L P' Q' hL hP hQ
 (cbv; try simp only [syT, true_and, and_true])
 (subst hL; subst hQ; simp only [L2, L3, std] at *; try simp only [syS, reduceCtorEq, Int.reduceToNat, Int.reduceAdd, Int.reduceSub] at *)
 simp only [yl7]
 exact ⟨⟨ylr _, hp, fun _ _ => trivial⟩, rfl⟩
def yrj (l : List Cl) : Int := zge zyt l
def yin (l : List Cl) : Bool := l.any zyt
def yqo (l : List Cl) (i : Nat) : Prop := zlu zyt l i
def zmc (l : List Cl) : Prop := zyv zrs l
theorem zxq (ih : zaz Tryz.prog (prS 107 zhi zhc zyt zrs std)) : zaz Tryz.prog (zyq 131 107 zkd zk9 yrj zmc std) := by
 intro xs p r h hp
 unfold zyq at h
 simp only at h
 split at h
 rotate_left
 · cases h
 rename_i x k
 cases hk : zai k 107 with
 | false => rw [hk] at h; cases h
 | true =>
 rw [hk] at h
 obtain rfl : k = 107 := of_decide_eq_true hk
 cases h
 obtain ⟨ho, hz, ha⟩ := hp
 refine ziy zcy ho ?_
 have hz : zkr (rdW clV x) := hz
 have ha : zmc (rdW clV x) := ha
 show za9 _ _ _ (.int .i64 (zge zyt (rdW clV x)))
 generalize rdW clV x = l at hz ha |-
 refine za6 (T := tt) (S := fun L => zak [prS 107 zhi zhc zyt zrs L]) (lo := fun L => ixA L yqo l) (lb := noA) 5 (fn := Tryz.f131) (xs := fun L => [zo0 L l, .fn 107 [] []]) rfl rfl (by kernel_rfl) (by kernel_rfl) rfl zaa
   (za2 ⟨ih, trivial⟩) (by kernel_rfl) ?_
 intro L P' Q' hL hP hQ
 (cbv; try simp only [syT, true_and, and_true])
 refine ⟨⟨0, ?_⟩, fun i hi => ?_⟩
 · (cbv; try simp only [syT, true_and, and_true])
   (subst hL; subst hQ; simp only [L2, L3, std] at *; try simp only [syS, reduceCtorEq, Int.reduceToNat, Int.reduceAdd, Int.reduceSub] at *)
   exact zkj _ _
 · cbv at hi
   have hG : ∀ y : Cl, L zhc (.agg [.str (L Cl.n y), .lst 6 (L zcd (L Cl.es y)) (fun i => epC L (L (L zhj (L Cl.es y)) i))]) = y := by subst hL; exact fun y => (gK zcy y _ rfl).2
   have hO : ∀ y : Cl, L zhi (.agg [.str (L Cl.n y), .lst 6 (L zcd (L Cl.es y)) (fun i => epC L (L (L zhj (L Cl.es y)) i))]) := by subst hL; exact fun y => (gK zcy y _ rfl).1
   (cbv; try simp only [syT, true_and, and_true])
   simp only [hG, hO, true_and]
   have hw : zcd l = l.length := rfl
   have hz : l.length <= 1000000 := hz
   refine ⟨fun hlt => ⟨?_, ?_, fun hb => ?_, fun hb => ⟨i + 1, ?_⟩⟩, fun hge => ?_⟩
   · (subst hL; subst hQ; simp only [L2, L3, std] at *; try simp only [syS, reduceCtorEq, Int.reduceToNat, Int.reduceAdd, Int.reduceSub] at *)
     omega
   · (subst hL; subst hQ; simp only [L2, L3, std] at *; try simp only [syS, reduceCtorEq, Int.reduceToNat, Int.reduceAdd, Int.reduceSub] at *)
     exact ha _ (by rw [zkh, zb2 (V := clV) (by omega)]; exact List.getElem_mem _)
   · (subst hL; subst hQ; simp only [L2, L3, std] at *; try simp only [syS, reduceCtorEq, Int.reduceToNat, Int.reduceAdd, Int.reduceSub] at *)
     exact (zft (V := clV) hi (by omega) hb).symm
   · (cbv; try simp only [syT, true_and, and_true])
     try simp only [hG]
     (subst hL; subst hQ; simp only [L2, L3, std] at *; try simp only [syS, reduceCtorEq, Int.reduceToNat, Int.reduceAdd, Int.reduceSub] at *)
     exact ⟨by omega, zer (V := clV) hi (by omega) hb, by omega⟩
   · (subst hL; subst hQ; simp only [L2, L3, std] at *; try simp only [syS, reduceCtorEq, Int.reduceToNat, Int.reduceAdd, Int.reduceSub] at *)
     exact (zfu hi (by omega)).symm
theorem zyj (ih : zaz Tryz.prog (prS 107 zhi zhc zyt zrs std)) : zaz Tryz.prog (zyu 105 107 zkd zk9 yin zmc std) := by
 intro xs p r h hp
 unfold zyu at h
 simp only at h
 split at h
 rotate_left
 · cases h
 rename_i x k
 cases hk : zai k 107 with
 | false => rw [hk] at h; cases h
 | true =>
 rw [hk] at h
 obtain rfl : k = 107 := of_decide_eq_true hk
 cases h
 obtain ⟨ho, hz, ha⟩ := hp
 refine ziy zcy ho ?_
 have hz : zkr (rdW clV x) := hz
 have ha : zmc (rdW clV x) := ha
 show za9 _ _ _ (.bool (yin (rdW clV x)))
 generalize rdW clV x = l at hz ha |-
 refine za6 (T := tt) (S := fun L => zak [zyq 131 107 zkd zk9 yrj zmc L]) (lo := fun _ => noA std) (lb := noA) 5 (fn := Tryz.f105) (xs := fun L => [zo0 L l, .fn 107 [] []]) rfl rfl (by kernel_rfl) (by kernel_rfl) rfl zaa
   (za2 ⟨zxq ih, trivial⟩) (by kernel_rfl) ?_
 intro L P' Q' hL hP hQ
 (cbv; try simp only [syT, true_and, and_true])
 (subst hL; subst hQ; simp only [L2, L3, std] at *; try simp only [syS, reduceCtorEq, Int.reduceToNat, Int.reduceAdd, Int.reduceSub] at *)
 simp only [yah]
 refine ⟨⟨yb0 _, hz, ha⟩, ?_⟩
 have := zgd zyt l
 rw [zv8, show yin l = l.any zyt from rfl, <- this]; rfl
end Sy
end Go.Proofs.YtogpolfhcbgcbaaGreatDoor
namespace Go.Proofs.YtogpolfhcbgcbaaGreatDoor
namespace Sy
open Go Go.RowKit
set_option maxRecDepth 100000
set_option linter.unusedSimpArgs false
set_option linter.unusedVariables false
structure ztk (v : CV) (a b : Nat) : Prop where
 wf : wfV v
 sz : sizeC v <= a
 tx : (zbu v).length <= b
theorem ztk.up {v : CV} {a b a' b' : Nat} (h : ztk v a b) (ha : a <= a') (hb : b <= b') : ztk v a' b' := ⟨h.wf, by have := h.sz; omega, by have := h.tx; omega⟩
theorem zsq {n : Int} (h : zcq n) : ztk (zgk n) 1 11 := by
 refine ⟨?_, ?_, ?_⟩
 · rw [zgk, wfV, ztl]; exact ⟨h, by decide, trivial⟩
 · rw [zgk, zcp, zck]; omega
 · rw [zgk, zaj, if_pos rfl, List.length_append]
   have := zic h
   have e : (zg3 1).length = 1 := rfl
   omega
theorem zh0 {s : List UInt8} {m : Nat} (h : s.length <= m) (hm : m <= 1000000) : ztk (zjd s) 1 (11 + m) := by
 refine ⟨?_, ?_, ?_⟩
 · rw [zjd, wfV, ztl]; exact ⟨⟨by decide, by decide⟩, by omega, trivial⟩
 · rw [zjd, zcp, zck]; omega
 · rw [zjd, zaj, if_neg (by decide), if_pos rfl, List.length_append, List.length_append]
   have := zic (n := (s.length : Int)) ⟨by omega, by omega⟩
   have e : (zg3 2).length = 1 := rfl
   omega
theorem yjp {a b : Nat} : ∀ {l : List CV}, (∀ v ∈ l, ztk v a b) -> ztl l /\ sizeCs l <= l.length * a /\ (zax l).length <= l.length * b
 | [], _ => by rw [ztl, zck, zax]; exact ⟨trivial, by simp, by simp⟩
 | v :: l, h => by
   obtain ⟨i1, i2, i3⟩ := yjp (l := l) fun w hw => h w (by simp [hw])
   have hv := h v (by simp)
   have h2 := hv.sz
   have h3 := hv.tx
   rw [ztl, zbn, zax, List.length_append, List.length_cons, Nat.succ_mul, Nat.succ_mul]
   exact ⟨⟨hv.wf, i1⟩, by omega, by omega⟩
theorem ziu {l : List CV} {a b : Nat} (m : Nat) (h : ∀ v ∈ l, ztk v a b) (hl : l.length <= m) (hm : m <= 1000) : ztk (zdp l) (m * a + 1) (11 + m * b) := by
 obtain ⟨i1, i2, i3⟩ := yjp h
 have e1 := Nat.mul_le_mul_right a hl
 have e2 := Nat.mul_le_mul_right b hl
 refine ⟨?_, ?_, ?_⟩
 · rw [zdp, wfV]; exact ⟨⟨by decide, by decide⟩, by decide, i1⟩
 · rw [zdp, zcp]; omega
 · rw [zdp, zaj, if_neg (by decide), if_neg (by decide), List.length_append, List.length_append]
   have := zic (n := (l.length : Int)) ⟨by omega, by omega⟩
   have e : (zg3 3).length = 1 := rfl
   omega
def ybo (x : Rt) : Bool := decide (x.h.length <= 300) && decide (x.p.length <= 300) && decide (x.c.length <= 300)
def zuy (x : Ls) : Bool := decide (x.n.length <= 300) && decide (x.rs.length <= 12) && x.rs.all ybo
def zv0 (x : Cl) : Bool := decide (x.n.length <= 300) && decide (x.es.length <= 12)
def zuz (x : Cf) : Bool := decide (x.ls.length <= 12) && decide (x.cs.length <= 12) && x.ls.all zuy && x.cs.all zv0
def wfRt (x : Rt) : Prop := zcq x.i
def wfEp (x : Ep) : Prop := zyp x.pl /\ -9223372036854775808 <= x.w /\ x.w <= 9223372036854775807
def ypc (x : Ls) : Prop := zyp x.pl /\ ∀ r ∈ x.rs, wfRt r
def wfCl (x : Cl) : Prop := ∀ e ∈ x.es, wfEp e
def wfCf (x : Cf) : Prop := zcq x.v /\ (∀ l ∈ x.ls, ypc l) /\ ∀ c ∈ x.cs, wfCl c
def zt5 (x : Cf) : CV := zdp [zgk x.v, ybl x.ls, ydk x.cs]
theorem yaq (x : Pl) : (plB x).length = 6 := rfl
theorem yrr {x : Rt} (hl : ybo x = true) (hw : wfRt x) : ztk (zh9 x) 5 1255 := by
 simp only [ybo, Bool.and_eq_true, decide_eq_true_eq] at hl
 refine ziu (a := 1) (b := 311) 4 (fun v hv => ?_) (Nat.le_of_ble_eq_true rfl) (by decide)
 simp only [List.mem_cons, List.not_mem_nil, or_false] at hv
 rcases hv with rfl | rfl | rfl | rfl
 · exact zh0 hl.1.1 (by omega)
 · exact zh0 hl.1.2 (by omega)
 · exact zh0 hl.2 (by omega)
 · exact (zsq hw).up (by omega) (by omega)
theorem zjk {α : Type} {val : α -> CV} {l : List α} {a b : Nat} (m : Nat) (h : ∀ x ∈ l, ztk (val x) a b) (hl : l.length <= m) (hm : m <= 1000) : ztk (zoj val l) (m * a + 1) (11 + m * b) :=
 ziu m (fun v hv => by obtain ⟨x, hx, rfl⟩ := List.mem_map.1 hv; exact h x hx) (by simpa using hl) hm
theorem yrs {x : Ep} (hw : wfEp x) : ztk (zhv x) 3 45 := by
 refine ziu (a := 1) (b := 17) 2 (fun v hv => ?_) (Nat.le_of_ble_eq_true rfl) (by decide)
 simp only [List.mem_cons, List.not_mem_nil, or_false] at hv
 rcases hv with rfl | rfl
 · exact zh0 (m := 6) (Nat.le_of_eq (yaq _)) (by omega)
 · exact (zsq ⟨by omega, by omega⟩).up (by omega) (by omega)
theorem yn3 {x : Ls} (hl : zuy x = true) (hw : ypc x) : ztk (zim x) 184 45224 := by
 simp only [zuy, Bool.and_eq_true, decide_eq_true_eq, List.all_eq_true] at hl
 refine ziu (a := 61) (b := 15071) 3 (fun v hv => ?_) (Nat.le_of_ble_eq_true rfl) (by decide)
 simp only [List.mem_cons, List.not_mem_nil, or_false] at hv
 rcases hv with rfl | rfl | rfl
 · exact (zh0 hl.1.1 (by omega)).up (by omega) (by omega)
 · exact (zh0 (m := 6) (Nat.le_of_eq (yaq _)) (by omega)).up (by omega) (by omega)
 · exact (zjk (a := 5) (b := 1255) 12 (fun r hr => yrr (hl.2 r hr) (hw.2 r hr)) hl.1.2 (by omega)).up (by omega) (by omega)
theorem yrt {x : Cl} (hl : zv0 x = true) (hw : wfCl x) : ztk (ziv x) 75 1113 := by
 simp only [zv0, Bool.and_eq_true, decide_eq_true_eq] at hl
 refine ziu (a := 37) (b := 551) 2 (fun v hv => ?_) (Nat.le_of_ble_eq_true rfl) (by decide)
 simp only [List.mem_cons, List.not_mem_nil, or_false] at hv
 rcases hv with rfl | rfl
 · exact (zh0 hl.1 (by omega)).up (by omega) (by omega)
 · exact (zjk (a := 3) (b := 45) 12 (fun e he => yrs (hw e he)) hl.2 (by omega)).up (by omega) (by omega)
theorem yru {x : Cf} (hl : zuz x = true) (hw : wfCf x) : ztk (zt5 x) 7000 2000000 := by
 simp only [zuz, Bool.and_eq_true, decide_eq_true_eq, List.all_eq_true] at hl
 refine (ziu (a := 2209) (b := 542699) 3 (fun v hv => ?_) (Nat.le_of_ble_eq_true rfl) (by decide)).up (by decide) (by decide)
 simp only [List.mem_cons, List.not_mem_nil, or_false] at hv
 rcases hv with rfl | rfl | rfl
 · exact (zsq hw.1).up (by omega) (by omega)
 · exact (zjk (a := 184) (b := 45224) 12 (fun r hr => yn3 (hl.1.2 r hr) (hw.2.1 r hr)) hl.1.1.1 (by omega)).up (by omega) (by omega)
 · exact (zjk (a := 75) (b := 1113) 12 (fun r hr => yrt (hl.2 r hr) (hw.2.2 r hr)) hl.1.1.2 (by omega)).up (by omega) (by omega)
def zs6 (x : Cf) : Bool := decide (8 < x.ls.length \/ 8 < x.cs.length) || x.ls.any zgu || x.cs.any zik
def ytm (x : Cf) : Bool := x.cs.any zyt
def cfE (x : Cf) : Int := if zs6 x = true then 6 else if ytm x = true then 7 else zrq (zt5 x)
def cfT (x : Cf) : List UInt8 := if cfE x = 0 then zx0 (zt5 x) else []
end Sy
end Go.Proofs.YtogpolfhcbgcbaaGreatDoor
namespace Go.Proofs.YtogpolfhcbgcbaaGreatDoor
namespace Sy
open Go Go.RowKit
set_option maxRecDepth 100000
set_option linter.unusedSimpArgs false
set_option linter.unusedVariables false
theorem lit3 (a b c : CV) : rdL (.lst 4 3 fun i j => zbk .dead [.int .i64 a.kd, .int .u64 a.nn, .str a.tx, .lst 4 (zlp a) (zjp a), .int .i64 b.kd, .int .u64 b.nn, .str b.tx, .lst 4 (zlp b) (zjp b), .int .i64 c.kd, .int .u64 c.nn, .str c.tx, .lst 4 (zlp c) (zjp c)] (i * 4 + j)) = [a, b, c] := (zlf [a, b, c] (n := 3) rfl rfl).1
theorem ym2 (a b c : CV) : okL (.lst 4 3 fun i j => zbk .dead [.int .i64 a.kd, .int .u64 a.nn, .str a.tx, .lst 4 (zlp a) (zjp a), .int .i64 b.kd, .int .u64 b.nn, .str b.tx, .lst 4 (zlp b) (zjp b), .int .i64 c.kd, .int .u64 c.nn, .str c.tx, .lst 4 (zlp c) (zjp c)] (i * 4 + j)) := (zlf [a, b, c] (n := 3) rfl rfl).2
def yr4 (n : Nat) (x : Cf) : Prop := x.ls.length <= n /\ x.cs.length <= n
def ylj (x : Cf) : Prop := yr4 1000000 x
def ylk (x : Cf) : Prop := zkr x.cs /\ ∀ c ∈ x.cs, zrs c
theorem zxe : zaz Tryz.prog (prS 81 zs2 znk zs6 ylj std) := by
 intro xs p r h hp
 dsimp only [prS] at h |-
 split at h <;> cases h
 try simp only [L2, L3, std] at hp |-
 rename_i x
 refine zyl zqq hp.1 ?_
 have hp := hp.2
 show za9 _ _ _ (.bool (zs6 (rdG cfV x)))
 have hp : ylj (rdG cfV x) := hp
 generalize rdG cfV x = y at hp |-
 refine za6 (T := tt) (S := fun L => zak [zyu 103 104 zs0 zrm yik zm9 L, zyu 105 106 zkd zk9 yil zma L]) (lo := fun _ => noA std) (lb := noA) 5 (fn := Tryz.f81) (xs := fun L => [.agg [.int .u64 (L Cf.v y), zs8 L (L Cf.ls y), zo0 L (L Cf.cs y)]]) rfl rfl (by kernel_rfl) (by kernel_rfl) rfl zaa (za2 ⟨zyg ylz, zyh ym0, trivial⟩) (by kernel_rfl) ?_
 intro L P' Q' hL hP hQ
 (cbv; try simp only [syT, true_and, and_true])
 (subst hL; subst hQ; simp only [L2, L3, std] at *; try simp only [syS, reduceCtorEq, Int.reduceToNat, Int.reduceAdd, Int.reduceSub] at *)
 simp only [yl6, yah]
 have e1 : zcd y.ls = y.ls.length := rfl
 have e2 : zcd y.cs = y.cs.length := rfl
 refine ⟨fun h => ?_, fun h => ⟨⟨ylq _, hp.1, fun _ _ => trivial⟩, fun h2 => ?_, fun h2 => ⟨⟨yb0 _, hp.2, fun _ _ => trivial⟩, ?_⟩⟩⟩
 · unfold zs6; rw [decide_eq_true (by omega)]; rfl
 · unfold zs6; rw [show y.ls.any zgu = true from h2]; simp
 · unfold zs6; rw [show y.ls.any zgu = false from h2, decide_eq_false (by omega)]; simp; rfl
theorem yeb : zaz Tryz.prog (prS 82 zs2 znk ytm ylk std) := by
 intro xs p r h hp
 dsimp only [prS] at h |-
 split at h <;> cases h
 try simp only [L2, L3, std] at hp |-
 rename_i x
 refine zyl zqq hp.1 ?_
 have hp := hp.2
 show za9 _ _ _ (.bool (ytm (rdG cfV x)))
 have hp : ylk (rdG cfV x) := hp
 generalize rdG cfV x = y at hp |-
 refine za6 (T := tt) (S := fun L => zak [zyu 105 107 zkd zk9 yin zmc L]) (lo := fun _ => noA std) (lb := noA) 5 (fn := Tryz.f82) (xs := fun L => [.agg [.int .u64 (L Cf.v y), zs8 L (L Cf.ls y), zo0 L (L Cf.cs y)]]) rfl rfl (by kernel_rfl) (by kernel_rfl) rfl zaa (za2 ⟨zyj yom, trivial⟩) (by kernel_rfl) ?_
 intro L P' Q' hL hP hQ
 (cbv; try simp only [syT, true_and, and_true])
 (subst hL; subst hQ; simp only [L2, L3, std] at *; try simp only [syS, reduceCtorEq, Int.reduceToNat, Int.reduceAdd, Int.reduceSub] at *)
 simp only [yah]
 exact ⟨⟨yb0 _, hp.1, hp.2⟩, rfl⟩
def ye8 (x : Cf) : Prop := zuz x = true /\ wfCf x
def yof (L : za7) : zbh := (65, fun xs => match xs with
 | [x] => some (L zs2 x /\ L ye8 (L znk x), .tup [.str (L cfT (L znk x)), .int .i64 (L cfE (L znk x))])
 | _ => none)
theorem yid : zaz Tryz.prog (yof std) := by
 intro xs p r h hp
 dsimp only [yof] at h |-
 split at h <;> cases h
 try simp only [L2, L3, std] at hp |-
 rename_i x
 refine zyl zqq hp.1 ?_
 have hp := hp.2
 show za9 _ _ _ (.tup [.str (cfT (rdG cfV x)), .int .i64 (cfE (rdG cfV x))])
 have hp : ye8 (rdG cfV x) := hp
 generalize rdG cfV x = y at hp |-
 refine za6 (T := tt) (S := fun L => zak [prS 81 zs2 znk zs6 ylj L, prS 82 zs2 znk ytm ylk L, zx8 L, zfi L, zvq 7000 L, zja 86 87 zs0 zrm yjh ybl L, zja 88 89 zkd zk9 yk1 ydk L]) (lo := fun _ => noA std) (lb := noA) 5 (fn := Tryz.f65) (xs := fun L => [.agg [.int .u64 (L Cf.v y), zs8 L (L Cf.ls y), zo0 L (L Cf.cs y)]]) rfl rfl (by kernel_rfl) (by kernel_rfl) rfl zaa (za2 ⟨zxe, yeb, zjg, zc8, zn1 7000, zsv zo1, zsx zqp, trivial⟩) (by kernel_rfl) ?_
 intro L P' Q' hL hP hQ
 have hG : L znk (.agg [.int .u64 (L Cf.v y), .lst 7 (L zcd (L Cf.ls y)) (fun i => lsC L (L (L zls (L Cf.ls y)) i)), .lst 2 (L zcd (L Cf.cs y)) (fun i => clC L (L (L zkh (L Cf.cs y)) i))]) = y := by subst hL; exact (gK zqq y _ rfl).2
 have hO : L zs2 (.agg [.int .u64 (L Cf.v y), .lst 7 (L zcd (L Cf.ls y)) (fun i => lsC L (L (L zls (L Cf.ls y)) i)), .lst 2 (L zcd (L Cf.cs y)) (fun i => clC L (L (L zkh (L Cf.cs y)) i))]) := by subst hL; exact (gK zqq y _ rfl).1
 (cbv; try simp only [syT, true_and, and_true])
 simp only [hG, hO, true_and]
 (subst hL; subst hQ; simp only [L2, L3, std] at *; try simp only [syS, reduceCtorEq, Int.reduceToNat, Int.reduceAdd, Int.reduceSub] at *)
 simp only [yl6, yah]
 simp only [lit3, zdm, zbz]
 obtain ⟨hl, hw⟩ := hp
 have hf := yru hl hw
 have hl' := hl
 simp only [zuz, Bool.and_eq_true, decide_eq_true_eq, List.all_eq_true, zuy, zv0] at hl'
 obtain ⟨⟨⟨l1, l2⟩, l3⟩, l4⟩ := hl'
 have sz1 : ∀ {α : Type} {l : List α} (n : Nat), n <= 12 -> l.length <= n -> zkr l := fun n hn hl => by show _ <= 1000000; omega
 refine ⟨⟨by omega, by omega⟩, fun h => ?_, fun h => ⟨⟨sz1 12 (by omega) l2, fun c hc => sz1 12 (by omega) (l4 c hc).2⟩, fun h2 => ?_, fun h2 => ⟨⟨ylq _, sz1 12 (by omega) l1, fun x hx => ⟨(hw.2.1 x hx).1, sz1 12 (by omega) (l3 x hx).1.2⟩⟩, ⟨yb0 _, sz1 12 (by omega) l2, fun c hc => ⟨sz1 12 (by omega) (l4 c hc).2, fun e he => (hw.2.2 c hc e he).1⟩⟩, ⟨ym2 _ _ _, by show (3 : Nat) <= 1000000; omega⟩, ⟨(zk7 _).2, ⟨hf.sz, by omega⟩, hf.wf, ?_⟩, ?_⟩⟩⟩
 · have e : cfE y = 6 := by unfold cfE; rw [if_pos h]
   exact ⟨by rw [cfT, if_neg (by rw [e]; decide)], e.symm⟩
 · have e : cfE y = 7 := by unfold cfE; rw [if_neg (by rw [h]; decide), if_pos h2]
   exact ⟨by rw [cfT, if_neg (by rw [e]; decide)], e.symm⟩
 · have := hf.tx
   show (zbu (zt5 y)).length <= 90000000
   omega
 · have e : cfE y = zrq (zt5 y) := by unfold cfE; rw [if_neg (by rw [h]; decide), if_neg (by rw [h2]; decide)]
   refine ⟨?_, e.symm⟩
   show zx0 (zt5 y) = cfT y
   unfold cfT
   rw [e]
   split
   · rfl
   · rename_i h3
     unfold zx0; rw [if_neg h3]
def toGo {α : Type} (l : List α) (i : Nat) : Nat := l.length - i
end Sy
end Go.Proofs.YtogpolfhcbgcbaaGreatDoor
namespace Go.Proofs.YtogpolfhcbgcbaaGreatDoor
namespace Sy
open Go Go.RowKit
set_option maxRecDepth 100000
set_option linter.unusedSimpArgs false
set_option linter.unusedVariables false
end Sy
end Go.Proofs.YtogpolfhcbgcbaaGreatDoor
namespace Go.Proofs.YtogpolfhcbgcbaaGreatDoor
namespace Sy
open Go Go.RowKit
set_option maxRecDepth 100000
set_option linter.unusedSimpArgs false
set_option linter.unusedVariables false
end Sy
end Go.Proofs.YtogpolfhcbgcbaaGreatDoor
namespace Go.Proofs.YtogpolfhcbgcbaaGreatDoor
namespace Sy
open Go Go.RowKit
set_option maxRecDepth 100000
set_option linter.unusedSimpArgs false
set_option linter.unusedVariables false
def yd2 {α : Type} (V : Vw α) (a b : List α) (i : Nat) : Prop := a.length = b.length /\ i <= a.length /\ ∀ j, j < i -> zj2 V a j = zj2 V b j
theorem ynh {α : Type} {V : Vw α} {a b : List α} (h : a.length = b.length) : yd2 V a b 0 := ⟨h, Nat.zero_le _, fun j hj => by omega⟩
theorem zxy {α : Type} {V : Vw α} {a b : List α} {i : Nat} (h : yd2 V a b i) (hi : i < a.length) (e : zj2 V a i = zj2 V b i) : yd2 V a b (i + 1) :=
 ⟨h.1, hi, fun j hj => by
   by_cases ej : j = i
   · rw [ej]; exact e
   · exact h.2.2 j (by omega)⟩
theorem yd1 {α : Type} {V : Vw α} {a b : List α} {i : Nat} (h : yd2 V a b i) (hi : a.length <= i) : a = b := by
 apply List.ext_getElem h.1
 intro j h1 h2
 have := h.2.2 j (by omega)
 rwa [zb2 h1, zb2 h2] at this
theorem yhy {α : Type} {V : Vw α} {a b : List α} {i : Nat} (e : ¬ zj2 V a i = zj2 V b i) : ¬ a = b := fun h => e (by rw [h])
theorem ys7 {α : Type} {a b : List α} (h : ¬ a.length = b.length) : ¬ a = b := fun e => h (by rw [e])
def yv7 {α : Type} (f : Nat) (ok : AV -> Prop) (rd : AV -> List α) (p : List α -> List α -> Bool) (L : za7) : zbh := (f, fun xs => match xs with
 | [x, y] => some (L ok x /\ L ok y /\ L zkr (L rd x), .bool (L2 L p (L rd x) (L rd y)))
 | _ => none)
def eqlA {α : Type} (L : za7) (inv : List α -> List α -> Nat -> Prop) (go : List α -> Nat -> Nat) (l m : List α) : Nat -> St -> Option Ann := fun id st => match id with
 | 0 => some ⟨Nat, fun i => [(13, .int .i64 (L zaq i))], fun i => [], [0, 1, 11, 12], [], fun i => L3 L inv l m i, fun i => L2 L go l i⟩
 | _ => none
end Sy
end Go.Proofs.YtogpolfhcbgcbaaGreatDoor
namespace Go.Proofs.YtogpolfhcbgcbaaGreatDoor
namespace Sy
open Go Go.RowKit
set_option maxRecDepth 100000
set_option linter.unusedSimpArgs false
set_option linter.unusedVariables false
def zqk (a b : List Lbx) : Bool := decide (a = b)
def ys6 (a b : List Lbx) (i : Nat) : Prop := yd2 sxV a b i
def zvk (a b : Lbx) : Bool := decide (a = b)
def yv3 (l : List Lbx) (i : Nat) : Nat := toGo l i
theorem zss : zaz Tryz.prog (yv7 51 zhg zcx zqk std) := by
 intro xs p r h hp
 dsimp only [yv7] at h |-
 split at h <;> cases h
 try simp only [L2, L3, std] at hp |-
 rename_i x y
 obtain ⟨ho, ho', hz⟩ := hp
 refine ziy zjw ho (yvw zjw ho' ?_)
 have hz : zkr (rdW sxV x) := hz
 show za9 _ _ _ (.bool (zqk (rdW sxV x) (rdW sxV y)))
 generalize rdW sxV x = l at hz |-
 generalize rdW sxV y = m
 refine za6 (T := tt) (S := noS) (lo := fun L => eqlA L ys6 yv3 l m) (lb := noA) 5 (fn := Tryz.f51) (xs := fun L => [yjg L l, yjg L m]) rfl rfl (by kernel_rfl) (by kernel_rfl) rfl zaa (zbx _) (by kernel_rfl) ?_
 intro L P' Q' hL hP hQ
 have e1 : zcd l = l.length := rfl
 have e2 : zcd m = m.length := rfl
 have hz : l.length <= 1000000 := hz
 (cbv; try simp only [syT, true_and, and_true])
 refine ⟨fun hne => ?_, fun heq => ⟨⟨0, ?_⟩, fun i hi => ?_⟩⟩
 · (subst hL; subst hQ; simp only [L2, L3, std] at *; try simp only [syS, reduceCtorEq, Int.reduceToNat, Int.reduceAdd, Int.reduceSub] at *)
   exact (decide_eq_false (ys7 (by omega))).symm
 · (cbv; try simp only [syT, true_and, and_true])
   (subst hL; subst hQ; simp only [L2, L3, std] at *; try simp only [syS, reduceCtorEq, Int.reduceToNat, Int.reduceAdd, Int.reduceSub] at *)
   exact ynh (by omega)
 · cbv at hi
   have hE : ∀ x y : Lbx, L2 L seq x y = zvk x y := by
     subst hL
     intro x y
     rw [Bool.eq_iff_iff]
     simp [std, L2, zvk, seq]
   (cbv; try simp only [syT, true_and, and_true])
   simp only [hE]
   refine ⟨fun hlt => ⟨?_, ?_, fun hb => ?_, fun hb => ⟨i + 1, ?_⟩⟩, fun hge => ?_⟩
   · (subst hL; subst hQ; simp only [L2, L3, std] at *; try simp only [syS, reduceCtorEq, Int.reduceToNat, Int.reduceAdd, Int.reduceSub] at *)
     omega
   · (subst hL; subst hQ; simp only [L2, L3, std] at *; try simp only [syS, reduceCtorEq, Int.reduceToNat, Int.reduceAdd, Int.reduceSub] at *)
     omega
   · (subst hL; subst hQ; simp only [L2, L3, std] at *; try simp only [syS, reduceCtorEq, Int.reduceToNat, Int.reduceAdd, Int.reduceSub] at *)
     simp only [zvk, Bool.not_eq_true', decide_eq_false_iff_not] at hb
     exact (decide_eq_false (yhy (V := sxV) (i := i) hb)).symm
   · (cbv; try simp only [syT, true_and, and_true])
     (subst hL; subst hQ; simp only [L2, L3, std] at *; try simp only [syS, reduceCtorEq, Int.reduceToNat, Int.reduceAdd, Int.reduceSub] at *)
     simp only [zvk, Bool.not_eq_false', decide_eq_true_eq] at hb
     refine ⟨by omega, zxy hi (by omega) hb, ?_⟩
     show l.length - (i + 1) < l.length - i
     omega
   · (subst hL; subst hQ; simp only [L2, L3, std] at *; try simp only [syS, reduceCtorEq, Int.reduceToNat, Int.reduceAdd, Int.reduceSub] at *)
     exact (decide_eq_true (yd1 hi (by omega))).symm
theorem zkb (s : Lbx) : (zam s).length <= s.length + 1 := by
 have h1 : (zam s).length <= (zac s zm4).length := List.length_filter_le _ _
 have h2 : (zac s zm4).length = cntB s zm4 + 1 := zar (by1 zm4) s
 have := zvs s zm4
 omega
theorem yj5 (m : List Lbx) {k : Nat} (hk : k <= m.length) : zhg (.lst 1 k fun i => sxC std (zan m i)) /\ zcx (.lst 1 k fun i => sxC std (zan m i)) = m.take k := by
 refine ⟨⟨rfl, fun i hi => ⟨_, rfl⟩⟩, ?_⟩
 show (List.range k).map (fun i => zan m i) = m.take k
 apply List.ext_getElem
 · simp [hk]
 · intro i h1 h2
   have hi : i < k := by simpa using h1
   simp only [List.getElem_map, List.getElem_range, List.getElem_take]
   exact zkf (by omega)
def zto (a b : Lbx) : Bool := decide ((zam a).length <= (zam b).length) && decide (zam a = (zam b).take (zam a).length)
def ypg (a b : Lbx) : Prop := a.length <= 900000 /\ b.length <= 900000
def ykb (L : za7) : zbh := (29, fun xs => match xs with
 | [.str a, .str b] => some (L2 L ypg a b, .bool (L2 L zto a b))
 | _ => none)
theorem yf2 : zaz Tryz.prog (ykb std) := by
 intro xs p r h hp
 dsimp only [ykb] at h |-
 split at h <;> cases h
 try simp only [L2, L3, std] at hp |-
 rename_i a b
 obtain ⟨h1, h2⟩ : ypg a b := hp
 refine za5 (T := tt) (S := fun L => zak [yfy L, yv7 51 zhg zcx zqk L]) (lo := noA) (lb := noA) 5 (fn := Tryz.f29) rfl rfl (by kernel_rfl) (by kernel_rfl) rfl zaa (za2 ⟨zu3, zss, trivial⟩) (by kernel_rfl) ?_
 intro L P' Q' hL hP hQ
 (cbv; try simp only [syT, true_and, and_true])
 subst hL; subst hQ
 have e1 : (zam a).length <= 1000000 := by have := zkb a; omega
 obtain ⟨r1, r2⟩ := yj5 (zam a) (Nat.le_refl _)
 rw [List.take_length] at r2
 refine ⟨h1, h2, fun h => ?_, fun h => ?_⟩
 · have h : ile (zaq (zam a).length) (zaq (zam b).length) = true := h
   have hle : (zam a).length <= (zam b).length := by
     rw [yrb, zal, zal] at h; omega
   obtain ⟨q1, q2⟩ := yj5 (zam b) hle
   refine ⟨?_, ⟨r1, q1, ?_⟩, ?_⟩
   · show inC (zaq (zam a).length) (zaq (zam b).length) = true
     rw [yr9, zal, zal]; omega
   · show zkr (zcx (.lst 1 (zam a).length fun i => sxC std (zan (zam a) i)))
     rw [r2]; exact e1
   · rw [zae]
     show zqk (zcx (.lst 1 (zam a).length fun i => sxC std (zan (zam a) i))) (zcx (.lst 1 (zam a).length fun i => sxC std (zan (zam b) i))) = zto a b
     rw [r2, q2]
     unfold zto zqk
     rw [decide_eq_true hle, Bool.true_and]
 · have h : ile (zaq (zam a).length) (zaq (zam b).length) = false := h
   have hle : ¬ (zam a).length <= (zam b).length := by
     rw [yrd, zal, zal] at h; omega
   rw [zae]
   unfold zto
   rw [decide_eq_false hle, Bool.false_and]
end Sy
end Go.Proofs.YtogpolfhcbgcbaaGreatDoor
namespace Go.Proofs.YtogpolfhcbgcbaaGreatDoor
namespace Sy
open Go Go.RowKit
set_option maxRecDepth 100000
set_option linter.unusedSimpArgs false
set_option linter.unusedVariables false
structure Mq where
 h : List UInt8
 p : List UInt8
 host : List UInt8
 path : List UInt8
def znv (L : za7) (h p host path : List UInt8) : Mq := L (L (L (L Mq.mk h) p) host) path
def zpo (q : Mq) : Prop := q.h.length <= 900000 /\ q.p.length <= 900000 /\ q.host.length <= 900000 /\ q.path.length <= 900000
noncomputable def mtB (q : Mq) : Bool := decide (ze5 q.path = 0) && (zn2 q.h q.host && zto q.p q.path)
noncomputable def ygh (L : za7) : zbh := (11, fun xs => match xs with
 | [.agg [.str h, .str p, .str c, .int .u64 i], .str host, .str path] => some (L zpo (znv L h p host path), .bool (L mtB (znv L h p host path)))
 | _ => none)
theorem zum : zaz Tryz.prog (ygh std) := by
 intro xs p r h hp
 dsimp only [ygh] at h |-
 split at h <;> cases h
 try simp only [L2, L3, std] at hp |-
 rename_i h p c i host path
 obtain ⟨h1, h2, h3, h4⟩ : zpo ⟨h, p, host, path⟩ := hp
 have h1 : h.length <= 900000 := h1
 have h2 : p.length <= 900000 := h2
 have h3 : host.length <= 900000 := h3
 have h4 : path.length <= 900000 := h4
 refine za5 (T := tt) (S := fun L => zak [yat L, yi9 L, ykb L]) (lo := noA) (lb := noA) 5 (fn := Tryz.f11) rfl rfl (by kernel_rfl) (by kernel_rfl) rfl zaa (za2 ⟨yau, zvr, yf2, trivial⟩) (by kernel_rfl) ?_
 intro L P' Q' hL hP hQ
 (cbv; try simp only [syT, true_and, and_true])
 subst hL; subst hQ
 have e : mtB (znv std h p host path) = (decide (ze5 path = 0) && (zn2 h host && zto p path)) := rfl
 refine ⟨by show path.length <= 1000000000; omega, fun k => ⟨⟨by omega, by omega⟩, fun k2 => ⟨⟨h2, h4⟩, ?_⟩, fun k2 => ?_⟩, fun k => ?_⟩
 · have k : ieq (ze5 path) 0 = true := k
   rw [yc7] at k
   have k2 : zn2 h host = true := k2
   rw [zae, e, k2, decide_eq_true k]; rfl
 · have k2 : zn2 h host = false := k2
   rw [zae, e, k2, Bool.false_and, Bool.and_false]
 · have k : ieq (ze5 path) 0 = false := k
   rw [yh7] at k
   rw [zae, e, decide_eq_false k, Bool.false_and]
def rkA (h : List UInt8) : Int := 2 * (zld h [46] + 1) - (if zh3 h [42] = true then 1 else 0)
def rkB (p : List UInt8) : Int := (zam p).length
noncomputable def rk1 (q : Mq) : Int := if mtB q = true then rkA q.h else 0
noncomputable def rk2 (q : Mq) : Int := if mtB q = true then rkB q.p else 0
noncomputable def yfq (L : za7) : zbh := (12, fun xs => match xs with
 | [.agg [.str h, .str p, .str c, .int .u64 i], .str host, .str path] => some (L zpo (znv L h p host path), .cpx .f64 (L fOf (L rk1 (znv L h p host path))) (L fOf (L rk2 (znv L h p host path))))
 | _ => none)
theorem ztv : zaz Tryz.prog (yfq std) := by
 intro xs p r h hp
 dsimp only [yfq] at h |-
 split at h <;> cases h
 try simp only [L2, L3, std] at hp |-
 rename_i h p c i host path
 obtain ⟨h1, h2, h3, h4⟩ : zpo ⟨h, p, host, path⟩ := hp
 have h1 : h.length <= 900000 := h1
 have h2 : p.length <= 900000 := h2
 refine za5 (T := tt) (S := fun L => zak [ygh L, ydj L, yg1 L, yfy L, yg2 L]) (lo := noA) (lb := noA) 5 (fn := Tryz.f12) rfl rfl (by kernel_rfl) (by kernel_rfl) rfl zaa (za2 ⟨zum, zon, zu4, zu3, zu6, trivial⟩) (by kernel_rfl) ?_
 intro L P' Q' hL hP hQ
 (cbv; try simp only [syT, true_and, and_true])
 subst hL; subst hQ
 obtain ⟨q, hq⟩ : ∃ q : Mq, q = znv std h p host path := ⟨_, rfl⟩
 have qh : q.h = h := by rw [hq]; rfl
 have qp : q.p = p := by rw [hq]; rfl
 rw [<- hq]
 have hc0 : 0 <= zld h [46] := Int.natCast_nonneg _
 have hc1 : zld h [46] <= 900000 := by
   have h1' : h.count (by1 [46]) <= h.length := List.count_le_length
   show ((h.count (by1 [46]) : Nat) : Int) <= 900000
   omega
 have hp1 := zkb p
 have e1 : yez .i64 2 (zlo .i64 (zld h [46]) 1) = 2 * (zld h [46] + 1) := by
   have e0 : zlo .i64 (zld h [46]) 1 = zld h [46] + 1 := by
     unfold zlo
     rw [zi5]; omega
   rw [e0]
   unfold yez
   rw [zi5]; omega
 have e2 : yit .i64 (yez .i64 2 (zlo .i64 (zld h [46]) 1)) 1 = 2 * (zld h [46] + 1) - 1 := by
   rw [e1]
   unfold yit
   rw [zi5]; omega
 refine ⟨?_, fun k => ?_, fun k => ⟨rfl, ?_, fun k2 => ⟨h2, ?_, ?_⟩, fun k2 => ⟨h2, ?_, ?_⟩⟩⟩
 · rw [hq]; exact ⟨h1, h2, h3, h4⟩
 · have k : (!(mtB q)) = true := k
   have k : mtB q = false := by simpa using k
   rw [zgg, rk1, rk2, k, if_neg (by decide), if_neg (by decide)]
   exact ⟨by decide, by decide⟩
 · show h.length <= 1000000000 /\ 1 <= 1000000000
   omega
 · show zue (yit .i64 (yez .i64 2 (zlo .i64 (zld h [46]) 1)) 1) (zaq (zam p).length)
   rw [e2, zal]
   refine ⟨by omega, by omega, by omega, by omega⟩
 · have k : (!(mtB q)) = false := k
   have k : mtB q = true := by simpa using k
   have k2 : zh3 h [42] = true := k2
   rw [zgg]
   refine ⟨?_, ?_⟩
   · show fOf (zaq (zam p).length) = fOf (rk2 q)
     rw [rk2, if_pos k, qp]; rfl
   · show fOf (yit .i64 (yez .i64 2 (zlo .i64 (zld h [46]) 1)) 1) = fOf (rk1 q)
     rw [e2, rk1, if_pos k, qh, rkA, if_pos k2]
 · show zue (yez .i64 2 (zlo .i64 (zld h [46]) 1)) (zaq (zam p).length)
   rw [e1, zal]
   refine ⟨by omega, by omega, by omega, by omega⟩
 · have k : (!(mtB q)) = false := k
   have k : mtB q = true := by simpa using k
   have k2 : zh3 h [42] = false := k2
   rw [zgg]
   refine ⟨?_, ?_⟩
   · show fOf (zaq (zam p).length) = fOf (rk2 q)
     rw [rk2, if_pos k, qp]; rfl
   · show fOf (yez .i64 2 (zlo .i64 (zld h [46]) 1)) = fOf (rk1 q)
     rw [e1, rk1, if_pos k, qh, rkA, if_neg (by rw [k2]; decide), Int.sub_zero]
end Sy
end Go.Proofs.YtogpolfhcbgcbaaGreatDoor
namespace Go.Proofs.YtogpolfhcbgcbaaGreatDoor
namespace Sy
open Go Go.RowKit
set_option maxRecDepth 100000
set_option linter.unusedSimpArgs false
set_option linter.unusedVariables false
structure Mb where
 rs : List Rt
 host : List UInt8
 path : List UInt8
def mbQ (c : Mb) (i : Nat) : Mq := ⟨(zb8 c.rs i).h, (zb8 c.rs i).p, c.host, c.path⟩
structure Bs where
 b : Int
 s : Bool
 x : Int
 y : Int
def zin (a b x y : Int) : Bool := decide (x < a) || (decide (a = x) && decide (y < b))
noncomputable def bsN (c : Mb) : Nat -> Bs
 | 0 => ⟨0, false, 0, 0⟩
 | i + 1 => if zin (rk1 (mbQ c i)) (rk2 (mbQ c i)) (bsN c i).x (bsN c i).y = true then ⟨i, true, rk1 (mbQ c i), rk2 (mbQ c i)⟩ else bsN c i
def ygo (c : Mb) : Prop := c.rs.length <= 1000000 /\ c.host.length <= 900000 /\ c.path.length <= 900000 /\ ∀ r ∈ c.rs, r.h.length <= 900000 /\ r.p.length <= 900000
def yvp (c : Mb) (i : Nat) : Prop := i <= c.rs.length
def bsMu (c : Mb) (i : Nat) : Nat := c.rs.length - i
noncomputable def bsA (L : za7) (c : Mb) : Nat -> St -> Option Ann := fun id st => match id with
 | 0 => some ⟨Nat, fun i => [(8, .int .i64 (L Bs.b (L2 L bsN c i))), (9, .bool (L Bs.s (L2 L bsN c i))), (10, .cpx .f64 (L fOf (L Bs.x (L2 L bsN c i))) (L fOf (L Bs.y (L2 L bsN c i)))), (11, .int .i64 (L zaq i))], fun i => [], [1, 2, 3], [3], fun i => L2 L yvp c i, fun i => L2 L bsMu c i⟩
 | _ => none
noncomputable def bsB (c : Mb) : Int := (bsN c c.rs.length).b
noncomputable def bsS (c : Mb) : Bool := (bsN c c.rs.length).s
def zut (L : za7) (l : Ls) (host path : List UInt8) : Mb := L (L (L Mb.mk (L Ls.rs l)) host) path
noncomputable def yie (L : za7) : zbh := (9, fun xs => match xs with
 | [x, .str host, .str path] => some (L zhh x /\ L ygo (zut L (L zd6 x) host path), .tup [.int .i64 (L bsB (zut L (L zd6 x) host path)), .bool (L bsS (zut L (L zd6 x) host path))])
 | _ => none)
def inM (a : Int) : Prop := 0 <= a /\ a <= 1099511627776
theorem zgy {a : Int} (h : inM a) : ∃ n : Nat, a = (n : Int) /\ n <= 2 ^ 40 := by
 obtain ⟨h1, h2⟩ := h
 refine ⟨a.toNat, by omega, ?_⟩
 have : (2 : Nat) ^ 40 = 1099511627776 := by decide
 omega
theorem zo8 {a : Int} (h : inM a) : yp1 (fOf a) := by
 obtain ⟨n, rfl, hn⟩ := zgy h
 exact ⟨n, hn, rfl⟩
theorem yl4 {q : Mq} (h : zpo q) : inM (rk1 q) /\ inM (rk2 q) := by
 obtain ⟨h1, h2, h3, h4⟩ := h
 have hc0 : 0 <= zld q.h [46] := Int.natCast_nonneg _
 have hc1 : zld q.h [46] <= 900000 := by
   have h1' : q.h.count (by1 [46]) <= q.h.length := List.count_le_length
   show ((q.h.count (by1 [46]) : Nat) : Int) <= 900000
   omega
 have hp := zkb q.p
 unfold rk1 rk2 rkA rkB inM
 refine ⟨?_, ?_⟩
 · split
   · split <;> omega
   · omega
 · split <;> omega
theorem ye3 {a b x y : Int} (ha : inM a) (hb : inM b) (hx : inM x) (hy : inM y) : ilt 0 (yso (fOf a) (fOf b) (fOf x) (fOf y)) = zin a b x y := by
 obtain ⟨a, rfl, na⟩ := zgy ha
 obtain ⟨b, rfl, nb⟩ := zgy hb
 obtain ⟨x, rfl, nx⟩ := zgy hx
 obtain ⟨y, rfl, ny⟩ := zgy hy
 have k : ∀ n : Nat, n <= 2 ^ 40 -> n < 2 ^ 53 := fun n h => Nat.lt_of_le_of_lt h (by decide)
 unfold yso
 rw [ycx (k _ na) (k _ nx), ycx (k _ nb) (k _ ny)]
 unfold zin
 rcases Nat.lt_trichotomy a x with h | h | h
 · rw [if_pos h, if_neg (by decide : ¬ (-1 : Int) = 0), decide_eq_false (show ¬ ((x : Int) < a) by omega), decide_eq_false (show ¬ ((a : Int) = x) by omega)]
   rfl
 · subst h
   rw [if_neg (Nat.lt_irrefl _), if_neg (Nat.lt_irrefl _), if_pos rfl, decide_eq_false (show ¬ ((a : Int) < a) by omega), decide_eq_true (rfl : (a : Int) = a)]
   rcases Nat.lt_trichotomy b y with h2 | h2 | h2
   · rw [if_pos h2, decide_eq_false (show ¬ ((y : Int) < b) by omega)]; rfl
   · subst h2
     rw [if_neg (Nat.lt_irrefl _), if_neg (Nat.lt_irrefl _), decide_eq_false (show ¬ ((b : Int) < b) by omega)]; rfl
   · rw [if_neg (show ¬ b < y by omega), if_pos h2, decide_eq_true (show (y : Int) < b by omega)]; rfl
 · rw [if_neg (show ¬ a < x by omega), if_pos h, if_neg (by decide : ¬ (1 : Int) = 0), decide_eq_true (show (x : Int) < a by omega)]
   rfl
theorem yrz {a : Int} (ha : inM a) : fEq .f64 (fOf a) 0 = decide (a = 0) := by
 obtain ⟨a, rfl, na⟩ := zgy ha
 have := ycw (a := a) (b := 0) (Nat.lt_of_le_of_lt na (by decide : 2 ^ 40 < 2 ^ 53)) (by decide)
 rw [show fOf ((0 : Nat) : Int) = 0 by decide] at this
 rw [this]
 by_cases h : a = 0
 · rw [decide_eq_true h, decide_eq_true (by omega)]
 · rw [decide_eq_false h, decide_eq_false (by omega)]
theorem zus {c : Mb} (h : ygo c) {i : Nat} (hi : i < c.rs.length) : zpo (mbQ c i) := by
 obtain ⟨h1, h2, h3, h4⟩ := h
 have e : zb8 c.rs i = c.rs[i] := zb2 hi
 obtain ⟨q1, q2⟩ := h4 _ (List.getElem_mem hi)
 rw [<- e] at q1 q2
 exact ⟨q1, q2, h2, h3⟩
theorem yss {c : Mb} (h : ygo c) : ∀ {i : Nat}, i <= c.rs.length -> inM (bsN c i).x /\ inM (bsN c i).y
 | 0, _ => by
   rw [bsN]
   exact ⟨⟨Int.le_refl _, by show (0 : Int) <= 1099511627776; decide⟩, ⟨Int.le_refl _, by show (0 : Int) <= 1099511627776; decide⟩⟩
 | i + 1, hi => by
   have ih := yss h (i := i) (by omega)
   have hr := yl4 (zus h (i := i) (by omega))
   rw [bsN]
   split
   · exact hr
   · exact ih
theorem zvx : zaz Tryz.prog (yie std) := by
 intro xs p r h hp
 dsimp only [yie] at h |-
 split at h <;> cases h
 try simp only [L2, L3, std] at hp |-
 rename_i x host path
 obtain ⟨ho, hok⟩ := hp
 refine zyl zd9 ho ?_
 have hok : ygo (zut std (zd6 x) host path) := hok
 show za9 Tryz.prog 9 (.agg ((List.range 7).map (lsC std (zd6 x))) :: .str host :: .str path :: []) (.tup [.int .i64 (bsB (zut std (zd6 x) host path)), .bool (bsS (zut std (zd6 x) host path))])
 generalize zd6 x = l at hok |-
 obtain ⟨h1, h2, h3, h4⟩ := hok
 obtain ⟨c, hc⟩ : ∃ c : Mb, c = zut std l host path := ⟨_, rfl⟩
 rw [<- hc]
 refine za6 (T := tt) (S := fun L => zak [yfq L, ylm L]) (lo := noA) (lb := fun L => bsA L c) 5 (fn := Tryz.f9) (xs := fun L => [.agg [lsC L l 0, lsC L l 1, lsC L l 2, lsC L l 3, lsC L l 4, lsC L l 5, lsC L l 6], .str host, .str path]) rfl rfl (by kernel_rfl) (by kernel_rfl) rfl zaa (za2 ⟨ztv, yg3, trivial⟩) (by kernel_rfl) ?_
 intro L P' Q' hL hP hQ
 (cbv; try simp only [syT, true_and, and_true])
 have hlen : c.rs.length = l.rs.length := by rw [hc]; rfl
 have hcok : ygo c := by rw [hc]; exact ⟨h1, h2, h3, h4⟩
 have hz : c.rs.length <= 1000000 := hcok.1
 refine ⟨fun i hi => ?_, ?_⟩
 · have hi2 : i <= c.rs.length := by
     have h := hi
     rw [hL] at h
     exact h
   clear hi
   obtain ⟨i', hi'⟩ : ∃ i', i' = i + 1 := ⟨_, rfl⟩
   obtain ⟨b1, b2⟩ := yss hcok hi2
   (cbv; try simp only [syT, true_and, and_true])
   obtain ⟨q, hq⟩ : ∃ q, znv L (L Rt.h (L (L zb8 (L Ls.rs l)) (L Int.toNat (L zaq i)))) (L Rt.p (L (L zb8 (L Ls.rs l)) (L Int.toNat (L zaq i)))) host path = q := ⟨_, rfl⟩
   rw [hq]
   have hqq : q = mbQ c i := by rw [<- hq, hL, hc]; rfl
   refine ⟨fun k => ?_, fun k => ?_⟩
   · have hie : i = c.rs.length := by
       rw [hL] at k
       have k : ieq (zaq i) (zaq l.rs.length) = true := k
       rw [yc7, zal, zal] at k
       omega
     subst hL; subst hQ
     rw [zob, zev, zev, zl3, zl4, zmu]
     unfold bsB bsS
     rw [<- hie]
     exact ⟨rfl, rfl, trivial⟩
   · have hie : i < c.rs.length := by
       have k' := k
       rw [hL] at k'
       have k' : ieq (zaq i) (zaq l.rs.length) = false := k'
       rw [yh7, zal, zal] at k'
       omega
     have hqk := zus hcok hie
     obtain ⟨r1, r2⟩ := yl4 hqk
     rw [<- hqq] at hqk r1 r2
     have hn : bsN c i' = if zin (rk1 q) (rk2 q) (bsN c i).x (bsN c i).y = true then ⟨i, true, rk1 q, rk2 q⟩ else bsN c i := by rw [hi', bsN, hqq]
     refine ⟨?_, ?_, fun k1 => ⟨?_, fun k2 => ⟨i', ?_⟩, fun k2 => ⟨i', ?_⟩⟩, fun k1 => ⟨i', ?_⟩⟩
     · subst hL
       show inR (zaq i) (zaq l.rs.length) = true
       rw [zq2, zal, zal]; omega
     · subst hL; exact hqk
     · subst hL; exact ⟨⟨zo8 r1, zo8 r2⟩, zo8 b1, zo8 b2⟩
     · have hg : zin (rk1 q) (rk2 q) (bsN c i).x (bsN c i).y = true := by
         rw [hL] at k2
         rw [<- ye3 r1 r2 b1 b2]; exact k2
       rw [if_pos hg] at hn
       (cbv; try simp only [syT, true_and, and_true])
       subst hL
       refine ⟨fun _ _ _ _ => trivial, ?_, ?_, ?_, ?_, ?_, ?_, ?_⟩
       · show zlo .i64 (zaq i) 1 = zaq i'
         unfold zlo zaq
         rw [zi5]; omega
       · show fOf (rk2 q) = fOf (bsN c i').y
         rw [hn]
       · show fOf (rk1 q) = fOf (bsN c i').x
         rw [hn]
       · show true = (bsN c i').s
         rw [hn]
       · show zaq i = (bsN c i').b
         rw [hn]; rfl
       · show i' <= c.rs.length
         omega
       · show c.rs.length - i' < c.rs.length - i
         omega
     · have hg : zin (rk1 q) (rk2 q) (bsN c i).x (bsN c i).y = false := by
         rw [hL] at k2
         rw [<- ye3 r1 r2 b1 b2]; exact k2
       rw [if_neg (by rw [hg]; decide)] at hn
       (cbv; try simp only [syT, true_and, and_true])
       subst hL
       refine ⟨fun _ _ _ _ => trivial, ?_, ?_, ?_, ?_, ?_, ?_, ?_⟩
       · show zlo .i64 (zaq i) 1 = zaq i'
         unfold zlo zaq
         rw [zi5]; omega
       · show fOf (bsN c i).y = fOf (bsN c i').y
         rw [hn]
       · show fOf (bsN c i).x = fOf (bsN c i').x
         rw [hn]
       · show (bsN c i).s = (bsN c i').s
         rw [hn]
       · show (bsN c i).b = (bsN c i').b
         rw [hn]
       · show i' <= c.rs.length
         omega
       · show c.rs.length - i' < c.rs.length - i
         omega
     · have hg : zin (rk1 q) (rk2 q) (bsN c i).x (bsN c i).y = false := by
         rw [hL] at k1
         have k1 : (!(fEq .f64 (fOf (rk1 q)) 0 && fEq .f64 (fOf (rk2 q)) 0)) = false := k1
         rw [yrz r1, yrz r2] at k1
         simp at k1
         obtain ⟨z1, z2⟩ := k1
         rw [z1, z2]
         unfold zin
         have c1 := b1.1
         have c2 := b2.1
         rw [decide_eq_false (show ¬ ((bsN c i).x < 0) by omega), decide_eq_false (show ¬ ((bsN c i).y < 0) by omega), Bool.and_false]
         rfl
       rw [if_neg (by rw [hg]; decide)] at hn
       (cbv; try simp only [syT, true_and, and_true])
       subst hL
       refine ⟨fun _ _ _ _ => trivial, ?_, ?_, ?_, ?_, ?_, ?_, ?_⟩
       · show zlo .i64 (zaq i) 1 = zaq i'
         unfold zlo zaq
         rw [zi5]; omega
       · show fOf (bsN c i).y = fOf (bsN c i').y
         rw [hn]
       · show fOf (bsN c i).x = fOf (bsN c i').x
         rw [hn]
       · show (bsN c i).s = (bsN c i').s
         rw [hn]
       · show (bsN c i).b = (bsN c i').b
         rw [hn]
       · show i' <= c.rs.length
         omega
       · show c.rs.length - i' < c.rs.length - i
         omega
 · refine ⟨0, ?_⟩
   (cbv; try simp only [syT, true_and, and_true])
   subst hL
   refine ⟨fun _ _ _ _ => trivial, rfl, ?_, ?_, ?_, ?_, Nat.zero_le _⟩
   · show 0 = fOf (bsN c 0).y
     rw [bsN]; decide
   · show 0 = fOf (bsN c 0).x
     rw [bsN]; decide
   · show false = (bsN c 0).s
     rw [bsN]
   · show (0 : Int) = (bsN c 0).b
     rw [bsN]
end Sy
end Go.Proofs.YtogpolfhcbgcbaaGreatDoor
namespace Go.Proofs.YtogpolfhcbgcbaaGreatDoor
namespace Sy
open Go Go.RowKit
set_option maxRecDepth 100000
set_option linter.unusedSimpArgs false
set_option linter.unusedVariables false
theorem awT : plT ⟨127, 0, 0, 1, 80⟩ = [49, 50, 55, 46, 48, 46, 48, 46, 49, 58, 56, 48] := by
 have d1 := (zgi (s := [49, 50, 55]) (by decide)).1
 have d2 := (zgi (s := [48]) (by decide)).1
 have d3 := (zgi (s := [49]) (by decide)).1
 have d4 := (zgi (s := [56, 48]) (by decide)).1
 rw [show wnV [49, 50, 55] = 127 by decide] at d1
 rw [show wnV [48] = 0 by decide] at d2
 rw [show wnV [49] = 1 by decide] at d3
 rw [show wnV [56, 48] = 80 by decide] at d4
 rw [plT, d1, d2, d3, d4]; rfl
theorem awO : zyp ⟨127, 0, 0, 1, 80⟩ := ⟨⟨by decide, by decide⟩, ⟨by decide, by decide⟩, ⟨by decide, by decide⟩, ⟨by decide, by decide⟩, by decide, by decide⟩
theorem zyb : za9 Tryz.prog 90 [] (.bool true) := by
 refine za5 (T := tt) (S := fun L => zak [tru 123, yln L, zrr L]) (lo := noA) (lb := noA) 5 (fn := Tryz.f90) rfl rfl (by kernel_rfl) (by kernel_rfl) rfl zaa (za2 ⟨zbw zn8, yg4, zx1, trivial⟩) (by kernel_rfl) ?_
 have e := (yko awO).1 (by decide)
 rw [awT] at e
 (intro L P1 Q1 hL hP hQ; cbv; subst hL; simp only [L2, L3, std, syT]; subst hQ)
 (simp only [syS, reduceCtorEq, Int.reduceToNat, Int.reduceAdd, Int.reduceSub])
 simp only [e.1, e.2]
 exact ⟨(by decide : (12 : Nat) <= 1000000), fun _ => ⟨fun _ => ⟨by omega, fun _ => ⟨awO, awT⟩, rfl⟩, trivial⟩, trivial⟩
theorem zyn : za9 Tryz.prog 66 [] (.bool true) := by
 refine za5 (T := tt) (S := fun L => zak [tru 90]) (lo := noA) (lb := noA) 5 (fn := Tryz.f66) rfl rfl (by kernel_rfl) (by kernel_rfl) rfl zaa (za2 ⟨zbw zyb, trivial⟩) (by kernel_rfl) ?_
 (intro L P1 Q1 hL hP hQ; cbv; subst hL; simp only [L2, L3, std, syT]; subst hQ)
 (simp only [syS, reduceCtorEq, Int.reduceToNat, Int.reduceAdd, Int.reduceSub])
def plAt (L : za7) (x : Pl) : Nat -> AV
 | 0 => .int .u8 (L Pl.a x)
 | 1 => .int .u8 (L Pl.b x)
 | 2 => .int .u8 (L Pl.c x)
 | 3 => .int .u8 (L Pl.d x)
 | _ => .int .u16 (L Pl.p x)
def plOf (y : List Int × Int × Unit) : Pl := ⟨zkg y.1 0, zkg y.1 1, zkg y.1 2, zkg y.1 3, y.2.1⟩
theorem yg6 {H : Type} {enc : TypeId × Value -> H} {W : World} : zei enc Tryz.prog W 25 Pl 5 (plAt std) zyp := by
 have O := (zfs (P := Tryz.prog) (enc := enc) (W := W) Tryz.underlying25 (by kernel_rfl) (zbo rfl (yaw Tryz.underlying22 (by kernel_rfl) (opens_int Tryz.underlying5 (by kernel_rfl)) (by omega)) (zbo rfl (opens_int Tryz.underlying23 (by kernel_rfl)) (zii _))))
 refine ⟨O.size, fun fuel cs x h => ?_⟩
 obtain ⟨y, ⟨⟨hl, hall⟩, hp, _⟩, hlen, hy⟩ := O.go fuel cs x h
 have hb : ∀ j, j < 4 -> 0 <= zkg y.1 j /\ zkg y.1 j <= 255 := fun j hj => by
   have hlt : j < y.1.length := by omega
   have := bounds_u8 (hall _ (List.getElem_mem hlt))
   rw [zkg, List.getD_eq_getElem?_getD, List.getElem?_eq_getElem hlt]
   exact this
 refine ⟨plOf y, ⟨hb 0 (by omega), hb 1 (by omega), hb 2 (by omega), hb 3 (by omega), bounds_u16 hp⟩, hlen, fun j hj => ?_⟩
 obtain ⟨v, v1, v2, v3⟩ := hy j hj
 refine ⟨v, v1, v2, ?_⟩
 have cell : ∀ k, k < 4 -> avL (fun n (_ : Nat) => AV.int .u8 n) y.1 (k / 1) (k % 1) = .int .u8 (zkg y.1 k) := fun k hk => by
   rw [Nat.div_one, avL, zkg, List.getD_eq_getElem?_getD, List.getElem?_eq_getElem (by omega : k < y.1.length)]; rfl
 match j, hj with
 | 0, _ => simp only [Nat.mul_one, Nat.lt_add_one, show (0 : Nat) < 4 by omega, if_true, cell] at v3; exact v3
 | 1, _ => simp only [Nat.mul_one, show (1 : Nat) < 4 by omega, if_true, cell] at v3; exact v3
 | 2, _ => simp only [Nat.mul_one, show (2 : Nat) < 4 by omega, if_true, cell] at v3; exact v3
 | 3, _ => simp only [Nat.mul_one, show (3 : Nat) < 4 by omega, if_true, cell] at v3; exact v3
 | 4, _ => exact v3
end Sy
end Go.Proofs.YtogpolfhcbgcbaaGreatDoor
namespace Go.Proofs.YtogpolfhcbgcbaaGreatDoor
namespace Sy
open Go Go.RowKit
theorem zei.turn {H : Type} {enc : TypeId × Value -> H} {P : Program} {W : World} {t : TypeId} {α β : Type} {sz : Nat} {av : α -> Nat -> AV} {av' : β -> Nat -> AV} {ok : α -> Prop} {ok' : β -> Prop} (O : zei enc P W t α sz av ok) (f : α -> β) (h2 : ∀ y, ok y -> ok' (f y))
   (h1 : ∀ y, ok y -> ∀ j, j < sz -> ∀ v, R W.heap (DW W) zap (av y j) v -> R W.heap (DW W) zap (av' (f y) j) v) : zei enc P W t β sz av' ok' := by
 refine ⟨O.size, fun fuel cs x h => ?_⟩
 obtain ⟨y, y1, y2, y3⟩ := O.go fuel cs x h
 refine ⟨f y, h2 y y1, y2, fun j hj => ?_⟩
 obtain ⟨v, v1, v2, v3⟩ := y3 j hj
 exact ⟨v, v1, v2, h1 y y1 j hj v v3⟩
end Sy
end Go.Proofs.YtogpolfhcbgcbaaGreatDoor
namespace Go.Proofs.YtogpolfhcbgcbaaGreatDoor
namespace Sy
open Go Go.RowKit
set_option maxRecDepth 100000
set_option linter.unusedSimpArgs false
set_option linter.unusedVariables false
theorem yqx {h : Array Obj} {D : Nat -> Prop} {μ : Mu} {sz n : Nat} {get get' : Nat -> Nat -> AV} {v : Value} (e : ∀ i j, i < n -> j < sz -> get i j = get' i j) (r : R h D μ (.lst sz n get) v) : R h D μ (.lst sz n get') v := by
 cases r with
 | lst0 _ _ a cap hn => exact .lst0 _ _ a cap hn
 | lst _ _ _ b o cap vs hD hc hv h1 hr => exact .lst _ _ _ b o cap vs hD hc hv h1 (fun i j hi hj => by rw [<- e i j hi hj]; exact hr i j hi hj)
theorem zx6 {H : Type} {enc : TypeId × Value -> H} {P : Program} {W : World} {t e : TypeId} {α : Type} {V : Vw α} {ok : α -> Prop} (ht : P.underlying t = some (.slice e)) (hc : P.cellsOf t = 1) (he : zei enc P W e α V.sz (V.cell std) ok) (hs : 0 < V.sz) :
   zei enc P W t (List α) 1 (fun l _ => ybk std V l) (fun l => l.length <= maxLen /\ ∀ y ∈ l, ok y) :=
 (zry ht hc he hs).turn id (fun y h => h) (fun y h j hj v r => yqx (fun i q hi hq => by
   show avL (V.cell std) y i q = V.cell std (zj2 V y i) q
   have hi : i < y.length := hi
   rw [avL, List.getElem?_eq_getElem hi, zb2 hi]) r)
end Sy
end Go.Proofs.YtogpolfhcbgcbaaGreatDoor
namespace Go.Proofs.YtogpolfhcbgcbaaGreatDoor
namespace Sy
open Go Go.RowKit
set_option maxRecDepth 100000
set_option linter.unusedSimpArgs false
set_option linter.unusedVariables false
theorem ypr : zb5 3 = [3] := by rw [zb5, show (3 : Int).toNat = 3 from rfl, zbe (by decide)]; rfl
theorem zzm : zb5 0 = [0] := by rw [zb5, show (0 : Int).toNat = 0 from rfl, zbe (by decide)]; rfl
theorem yjw : zbu (zdp []) = [3, 0] := by
 rw [zdp, zaj, if_neg (by decide), if_neg (by decide), zax]
 show _ ++ (zb5 0 ++ _) = _
 rw [zzm]; rfl
theorem yd5 {n : Int} {b : UInt8} (h : zb5 n = [b]) : zbu (zdp [zgk n, zdp [], zdp []]) = [3, 3, 1, b, 3, 0, 3, 0] := by
 rw [zdp, zaj, if_neg (by decide), if_neg (by decide), zax, zax, zax, zax]
 show _ ++ (zb5 3 ++ (_ ++ (_ ++ (_ ++ _)))) = _
 have e : zbu (zgk n) = [1, b] := by rw [zgk, zaj, if_pos rfl, h]; rfl
 have e' : zbu (.mk 3 0 [] []) = [3, 0] := yjw
 rw [ypr, e, show zbu (zdp []) = [3, 0] from yjw]; rfl
theorem ynl (n : Int) : zfg (zdp [zgk n, zdp [], zdp []]) = true := by simp [zdp, zgk, zfg, zdh]
theorem ynk (n : Int) : zde (zdp [zgk n, zdp [], zdp []]) <= 6 := by
 simp only [zdp, zgk, zde, zay]
 split <;> decide
theorem yi0 {n : Int} {b : UInt8} (h : zb5 n = [b]) : cfE ⟨n, [], []⟩ = 0 /\ cfT ⟨n, [], []⟩ = [3, 3, 1, b, 3, 0, 3, 0] := by
 have h1 : zrq (zt5 ⟨n, [], []⟩) = 0 := by
   show zrq (zdp [zgk n, zdp [], zdp []]) = 0
   have := ynk n
   rw [zrq, if_pos (ynl n), if_neg (by omega), yd5 h]; rfl
 have h2 : cfE ⟨n, [], []⟩ = 0 := h1
 refine ⟨h2, ?_⟩
 rw [cfT, if_pos h2, (yq5 h1).2.2.2]
 exact yd5 h
theorem yq4 (n : Int) : znk (.agg [.int .u64 n, .nils, .nils]) = ⟨n, [], []⟩ := rfl
theorem yja (n : Int) : zs2 (.agg [.int .u64 n, .nils, .nils]) := ⟨rfl, ⟨_, rfl⟩, trivial, trivial⟩
theorem yan {n : Int} (h : zcq n) : ye8 ⟨n, [], []⟩ := ⟨rfl, h, (fun l hl => nomatch hl), (fun l hl => nomatch hl)⟩
theorem zy8 : za9 Tryz.prog 45 [] (.bool true) := by
 refine za5 (T := tt) (S := fun L => zak [yof L, tru 66, tru 67]) (lo := noA) (lb := noA) 5 (fn := Tryz.f45) rfl rfl (by kernel_rfl) (by kernel_rfl) rfl zaa (za2 ⟨yid, zbw zyn, zbw zym, trivial⟩) (by kernel_rfl) ?_
 intro L P' Q' hL hP hQ
 (cbv; try simp only [syT, true_and, and_true])
 (subst hL; subst hQ; simp only [L2, L3, std] at *; try simp only [syS, reduceCtorEq, Int.reduceToNat, Int.reduceAdd, Int.reduceSub] at *)
 simp only [yq4, (yi0 zzl).1, (yi0 zzl).2, (yi0 zzm).1, (yi0 zzm).2]
 exact ⟨⟨yja 1, yan ⟨by decide, by decide⟩⟩, ⟨yja 0, yan ⟨by decide, by decide⟩⟩, fun _ => ⟨fun _ => ⟨fun _ => trivial, trivial⟩, trivial⟩, trivial⟩
end Sy
end Go.Proofs.YtogpolfhcbgcbaaGreatDoor
namespace Go.Proofs.YtogpolfhcbgcbaaGreatDoor
namespace Sy
open Go Go.RowKit
set_option maxRecDepth 100000
set_option linter.unusedSimpArgs false
set_option linter.unusedVariables false
theorem zth : za9 Tryz.prog 22 [] (.bool true) := by
 refine za5 (T := tt) (S := fun L => zak [tru 43]) (lo := noA) (lb := noA) 5 (fn := Tryz.f22) rfl rfl (by kernel_rfl) (by kernel_rfl) rfl zaa (za2 ⟨zbw zyc, trivial⟩) (by kernel_rfl) ?_
 intro L P' Q' hL hP hQ
 (cbv; try simp only [syT, true_and, and_true])
 subst hL; subst hQ
 rw [zae]
theorem ztf : za9 Tryz.prog 24 [] (.bool true) := by
 refine za5 (T := tt) (S := fun L => zak [tru 45]) (lo := noA) (lb := noA) 5 (fn := Tryz.f24) rfl rfl (by kernel_rfl) (by kernel_rfl) rfl zaa (za2 ⟨zbw zy8, trivial⟩) (by kernel_rfl) ?_
 intro L P' Q' hL hP hQ
 (cbv; try simp only [syT, true_and, and_true])
 subst hL; subst hQ
 rw [zae]
def exC : Mb := ⟨[⟨[42, 46, 98], [47], [], 0⟩, ⟨[97, 46, 98], [47], [], 0⟩], [97, 46, 98], [47, 120]⟩
theorem zvi : ze5 [47, 120] = 0 := by
 unfold ze5
 rw [if_neg, if_neg]
 · decide
 · rintro (h | h | h)
   · revert h; decide
   · obtain ⟨j, hj, h1, h2⟩ := h
     have hj : j + 1 < 2 := hj
     obtain rfl : j = 0 := by omega
     revert h2; decide
   · revert h; decide
theorem ys4 : rk1 (mbQ exC 0) = 3 /\ rk2 (mbQ exC 0) = 0 := by
 have hm : mtB (mbQ exC 0) = true := by
   show (decide (ze5 [47, 120] = 0) && (zn2 [42, 46, 98] [97, 46, 98] && zto [47] [47, 120])) = true
   rw [zvi]
   decide +kernel
 unfold rk1 rk2
 rw [if_pos hm, if_pos hm]
 exact ⟨by decide +kernel, by decide +kernel⟩
theorem ys3 : rk1 (mbQ exC 1) = 4 /\ rk2 (mbQ exC 1) = 0 := by
 have hm : mtB (mbQ exC 1) = true := by
   show (decide (ze5 [47, 120] = 0) && (zn2 [97, 46, 98] [97, 46, 98] && zto [47] [47, 120])) = true
   rw [zvi]
   decide +kernel
 unfold rk1 rk2
 rw [if_pos hm, if_pos hm]
 exact ⟨by decide +kernel, by decide +kernel⟩
theorem zvj : bsN exC 2 = ⟨1, true, 4, 0⟩ := by
 have h1 : bsN exC 1 = ⟨0, true, 3, 0⟩ := by
   rw [bsN, ys4.1, ys4.2]
   show (if zin 3 0 (bsN exC 0).x (bsN exC 0).y = true then _ else _) = _
   rw [bsN]
   rfl
 rw [bsN, ys3.1, ys3.2, h1]
 rfl
theorem ys2 : ygo exC := ⟨by decide, by decide, by decide, fun r hr => by
 have hr : r ∈ [(⟨[42, 46, 98], [47], [], 0⟩ : Rt), ⟨[97, 46, 98], [47], [], 0⟩] := hr
 simp only [List.mem_cons, List.not_mem_nil, or_false] at hr
 rcases hr with rfl | rfl <;> exact ⟨by decide, by decide⟩⟩
theorem zy7 : za9 Tryz.prog 6 [] (.bool true) := by
 refine za5 (T := tt) (S := fun L => zak [yie L, tru 22, tru 23, tru 24]) (lo := noA) (lb := noA) 5 (fn := Tryz.f6) rfl rfl (by kernel_rfl) (by kernel_rfl) rfl zaa (za2 ⟨zvx, zbw zth, zbw ztg, zbw ztf, trivial⟩) (by kernel_rfl) ?_
 intro L P' Q' hL hP hQ
 (cbv; try simp only [syT, true_and, and_true])
 subst hL; subst hQ
 have eB : bsB exC = 1 := by show (bsN exC 2).b = 1; rw [zvj]
 have eS : bsS exC = true := by show (bsN exC 2).s = true; rw [zvj]
 refine ⟨⟨?_, ys2⟩, fun _ => ⟨fun _ => ⟨fun _ => ⟨fun _ => ?_, fun h => absurd (eS.symm.trans h) (by decide)⟩, fun h => (by cases h)⟩, fun h => (by cases h)⟩, fun h => (by cases h)⟩
 · refine ⟨rfl, ⟨_, rfl⟩, ⟨⟨_, rfl⟩, ⟨_, rfl⟩, ⟨_, rfl⟩, ⟨_, rfl⟩, ⟨_, rfl⟩⟩, rfl, fun i hi => ?_⟩
   match i, hi with
   | 0, _ => exact ⟨⟨_, rfl⟩, ⟨_, rfl⟩, ⟨_, rfl⟩, ⟨_, rfl⟩⟩
   | 1, _ => exact ⟨⟨_, rfl⟩, ⟨_, rfl⟩, ⟨_, rfl⟩, ⟨_, rfl⟩⟩
 · rw [zae]
   show ieq (bsB exC) 1 = true
   rw [eB]; rfl
end Sy
end Go.Proofs.YtogpolfhcbgcbaaGreatDoor
namespace Go.Proofs.YtogpolfhcbgcbaaGreatDoor
namespace Sy
open Go Go.RowKit
set_option maxRecDepth 100000
set_option linter.unusedSimpArgs false
set_option linter.unusedVariables false
def zri (L : za7) : zbh := (26, fun xs => match xs with
 | [.str s] => some (L2 L upto 9223372036854775807 s, .str (L zcm s))
 | _ => none)
theorem zwv : zaz Tryz.prog (zri std) := by
 intro xs p r h hp
 dsimp only [zri] at h |-
 split at h <;> cases h
 try simp only [L2, L3, std] at hp |-
 rename_i s
 have hz : s.length <= 9223372036854775807 := hp
 refine za6 (T := tt) (S := fun L => noS L) (lo := fun L => yl3 L s) (lb := noA) 5 (fn := Tryz.f26) (xs := fun L => [.str s]) rfl rfl (by kernel_rfl) (by kernel_rfl) rfl zaa (zbx _) (by kernel_rfl) ?_
 intro L P' Q' hL hP hQ
 (cbv; try simp only [syT, true_and, and_true])
 refine ⟨⟨0, ?_⟩, fun i hi => ?_⟩
 · (cbv; try simp only [syT, true_and, and_true])
   (subst hL; subst hQ; simp only [L2, L3, std] at *; try simp only [syS, reduceCtorEq, Int.reduceToNat, Int.reduceAdd, Int.reduceSub] at *)
   exact ⟨by simp [yeu, zcm], Nat.zero_le _⟩
 · have hi2 : i <= s.length := by
     have h := hi
     rw [hL] at h
     exact h
   clear hi
   have hll : (yeu s i).length <= i := by
     unfold yeu zcm
     rw [List.length_map, List.length_take]
     exact Nat.min_le_left _ _
   (cbv; try simp only [syT, true_and, and_true])
   have hc : L (L zgo s) (L zaq i) = za8 s i := by subst hL; rfl
   rw [hc]
   have one : ∀ x : Int, zbd 1 (fun k => (AV.int .u8 (zkg [x] (0 + k))).toI) = [UInt8.ofNat x.toNat] := fun x => rfl
   refine ⟨fun hlt => ⟨?_, fun h1 => ⟨fun h2 => ⟨⟨?_, fun k hk => ⟨_, rfl⟩⟩, ?_, i + 1, ?_⟩, fun h2 => ⟨⟨?_, fun k hk => ⟨_, rfl⟩⟩, ?_, i + 1, ?_⟩⟩, fun h1 => ⟨⟨?_, fun k hk => ⟨_, rfl⟩⟩, ?_, i + 1, ?_⟩⟩, fun hge => ?_⟩
   · (subst hL; subst hQ; simp only [L2, L3, std] at *; try simp only [syS, reduceCtorEq, Int.reduceToNat, Int.reduceAdd, Int.reduceSub] at *)
     omega
   · (subst hL; subst hQ; simp only [L2, L3, std] at *; try simp only [syS, reduceCtorEq, Int.reduceToNat, Int.reduceAdd, Int.reduceSub] at *)
     omega
   · (subst hL; subst hQ; simp only [L2, L3, std] at *; try simp only [syS, reduceCtorEq, Int.reduceToNat, Int.reduceAdd, Int.reduceSub] at *)
     simp only [one, List.length_singleton]
     omega
   · (cbv; try simp only [syT, true_and, and_true])
     (subst hL; subst hQ; simp only [L2, L3, std] at *; try simp only [syS, reduceCtorEq, Int.reduceToNat, Int.reduceAdd, Int.reduceSub] at *)
     refine ⟨?_, by omega, by show i + 1 <= s.length; omega, by show s.length - (i + 1) + 1 <= s.length - i; omega⟩
     rw [one, zko (by omega), ybm, if_pos ⟨h1, h2⟩, show (za8 s i + 32) % 256 = za8 s i + 32 by omega]
   · (subst hL; subst hQ; simp only [L2, L3, std] at *; try simp only [syS, reduceCtorEq, Int.reduceToNat, Int.reduceAdd, Int.reduceSub] at *)
     omega
   · (subst hL; subst hQ; simp only [L2, L3, std] at *; try simp only [syS, reduceCtorEq, Int.reduceToNat, Int.reduceAdd, Int.reduceSub] at *)
     simp only [one, List.length_singleton]
     omega
   · (cbv; try simp only [syT, true_and, and_true])
     (subst hL; subst hQ; simp only [L2, L3, std] at *; try simp only [syS, reduceCtorEq, Int.reduceToNat, Int.reduceAdd, Int.reduceSub] at *)
     refine ⟨?_, by omega, by show i + 1 <= s.length; omega, by show s.length - (i + 1) + 1 <= s.length - i; omega⟩
     rw [one, zko (by omega), ybm, if_neg (by omega)]
   · (subst hL; subst hQ; simp only [L2, L3, std] at *; try simp only [syS, reduceCtorEq, Int.reduceToNat, Int.reduceAdd, Int.reduceSub] at *)
     omega
   · (subst hL; subst hQ; simp only [L2, L3, std] at *; try simp only [syS, reduceCtorEq, Int.reduceToNat, Int.reduceAdd, Int.reduceSub] at *)
     simp only [one, List.length_singleton]
     omega
   · (cbv; try simp only [syT, true_and, and_true])
     (subst hL; subst hQ; simp only [L2, L3, std] at *; try simp only [syS, reduceCtorEq, Int.reduceToNat, Int.reduceAdd, Int.reduceSub] at *)
     refine ⟨?_, by omega, by show i + 1 <= s.length; omega, by show s.length - (i + 1) + 1 <= s.length - i; omega⟩
     rw [one, zko (by omega), ybm, if_neg (by omega)]
   · (subst hL; subst hQ; simp only [L2, L3, std] at *; try simp only [syS, reduceCtorEq, Int.reduceToNat, Int.reduceAdd, Int.reduceSub] at *)
     exact ygu (by omega)
end Sy
end Go.Proofs.YtogpolfhcbgcbaaGreatDoor
namespace Go.Proofs.YtogpolfhcbgcbaaGreatDoor
namespace Sy
open Go Go.RowKit
set_option maxRecDepth 100000
set_option linter.unusedSimpArgs false
set_option linter.unusedVariables false
def zni (L : za7) : zbh := (25, fun xs => match xs with
 | [.str s] => some (L2 L upto 9223372036854775807 s, .int .i64 (L zfn s))
 | _ => none)
theorem zrj : zaz Tryz.prog (zni std) := by
 intro xs p r h hp
 dsimp only [zni] at h |-
 split at h <;> cases h
 try simp only [L2, L3, std] at hp |-
 rename_i s
 have hp : s.length <= 9223372036854775807 := hp
 refine za6 (T := tt) (S := fun L => zak [yak L, zrh L]) (lo := fun L => ypz L s) (lb := noA) 5 (fn := Tryz.f25) (xs := fun L => [.str s]) rfl rfl (by kernel_rfl) (by kernel_rfl) rfl zaa (za2 ⟨yal, zwt, trivial⟩) (by kernel_rfl) ?_
 intro L P' Q' hL hP hQ
 (cbv; try simp only [syT, true_and, and_true])
 repeat' first | refine And.intro ?_ ?_ | refine fun (hh : (_ : Bool) = _) => ?_
 all_goals try (refine ⟨0, ?_⟩; (cbv; try simp only [syT, true_and, and_true]))
 all_goals try
   (intro i hi
    cbv at hi
    (cbv; try simp only [syT, true_and, and_true])
    repeat' first | refine And.intro ?_ ?_ | refine fun (hh : (_ : Bool) = _) => ?_
    all_goals try (refine ⟨i + 1, ?_⟩; (cbv; try simp only [syT, true_and, and_true])))
 all_goals (subst hL; subst hQ; simp only [L2, L3, std] at *; try simp only [syS, reduceCtorEq, Int.reduceToNat, Int.reduceAdd, Int.reduceSub] at *)
 all_goals have hls : ybq (spC s 46) = (zac s [46]).length := rfl
 all_goals have hsp := zzg s
 all_goals try
   (have g1 : ¬ ((s.length : Nat) : Int) = 0 := by assumption
    have g1 : ¬ s = [] := fun h => g1 (by rw [h]; rfl)
    have g2 : ((s.length : Nat) : Int) <= 64 := by assumption
    have g2 : s.length <= 64 := by omega)
 all_goals first
   | exact (if_pos (List.eq_nil_of_length_eq_zero (by omega))).symm
   | (have g1 : ¬ ((s.length : Nat) : Int) = 0 := by assumption
      have g1 : ¬ s = [] := fun h => g1 (by rw [h]; rfl)
      have g2 : 64 < s.length := by omega
      exact (by rw [zfn, if_neg g1, if_pos g2] : zfn s = 5).symm)
   | (show s.length <= 1000000; omega)
   | (show s.length <= 1000000000; omega)
   | exact hp
   | exact ⟨by decide, by decide⟩
   | exact ⟨by omega, by omega⟩
   | exact ⟨Nat.zero_le _, fun k hk => by omega⟩
   | exact Nat.le_trans (yb1 _ _ i) (by omega)
   | (refine (yu7 g1 g2 (i := i) (by omega) ?_).symm
      rintro (q | ⟨q1, q2, q3⟩)
      · have r : ze6 (ze9 (spC s 46) i) = false := by assumption
        exact absurd (r.symm.trans q) (by decide)
      · first
          | exact absurd (show ze9 (spC s 46) i = [42] from q1) (by assumption)
          | omega)
   | (refine (yq0 g1 g2 hi (by omega)).symm)
   | (refine ⟨by omega, yac hi (show i < (zac s [46]).length by omega) (.inl (show ze6 (ze9 (spC s 46) i) = true by assumption)), ?_⟩
      show (zac s [46]).length - (i + 1) + 1 <= (zac s [46]).length - i
      omega)
   | (refine ⟨by omega, yac hi (show i < (zac s [46]).length by omega) (.inr ⟨show ze9 (spC s 46) i = [42] by assumption, by omega, show 1 < (zac s [46]).length by omega⟩), ?_⟩
      show (zac s [46]).length - (i + 1) + 1 <= (zac s [46]).length - i
      omega)
end Sy
end Go.Proofs.YtogpolfhcbgcbaaGreatDoor
namespace Go.Proofs.YtogpolfhcbgcbaaGreatDoor
namespace Sy
open Go Go.RowKit
set_option maxRecDepth 100000
set_option linter.unusedSimpArgs false
set_option linter.unusedVariables false
noncomputable def hrB (r : Rt) : Bool := decide (zfn (zcm r.h) = 0) && decide (r.p.length <= 300)
noncomputable def ycd (l : Ls) (host : List UInt8) : Bool := decide (zfn (zcm host) = 0) && (decide (l.rs.length <= 20) && l.rs.all hrB)
def ymm (l : Ls) (host : List UInt8) : Prop := host.length <= 9223372036854775807 /\ ∀ r ∈ l.rs, r.h.length <= 9223372036854775807
noncomputable def hsI (l : Ls) (i : Nat) : Prop := i <= l.rs.length /\ ∀ j, j < i -> hrB (zb8 l.rs j) = true
def hsMu (l : Ls) (i : Nat) : Nat := l.rs.length - i
noncomputable def hsA (L : za7) (l : Ls) : Nat -> St -> Option Ann := fun id st => match id with
 | 0 => some ⟨Nat, fun i => [(20, .int .i64 (L zaq i))], fun i => [], [18, 19], [], fun i => L2 L hsI l i, fun i => L2 L hsMu l i⟩
 | _ => none
noncomputable def yml (L : za7) : zbh := (7, fun xs => match xs with
 | [x, .str host] => some (L zhh x /\ L2 L ymm (L zd6 x) host, .bool (L2 L ycd (L zd6 x) host))
 | _ => none)
theorem yhd : zaz Tryz.prog (yml std) := by
 intro xs p r h hp
 dsimp only [yml] at h |-
 split at h <;> cases h
 try simp only [L2, L3, std] at hp |-
 rename_i x host
 obtain ⟨ho, hok⟩ := hp
 refine zyl zd9 ho ?_
 have hok : ymm (zd6 x) host := hok
 show za9 Tryz.prog 7 (.agg ((List.range 7).map (lsC std (zd6 x))) :: .str host :: []) (.bool (ycd (zd6 x) host))
 generalize zd6 x = l at hok |-
 obtain ⟨h1, h2⟩ := hok
 refine za6 (T := tt) (S := fun L => zak [zri L, zni L]) (lo := fun L => hsA L l) (lb := noA) 5 (fn := Tryz.f7) (xs := fun L => [.agg [lsC L l 0, lsC L l 1, lsC L l 2, lsC L l 3, lsC L l 4, lsC L l 5, lsC L l 6], .str host]) rfl rfl (by kernel_rfl) (by kernel_rfl) rfl zaa (za2 ⟨zwv, zrj, trivial⟩) (by kernel_rfl) ?_
 intro L P' Q' hL hP hQ
 have hll : ∀ s : List UInt8, (zcm s).length = s.length := fun s => by simp [zcm]
 have no : ¬ (zfn (zcm host) = 0 /\ l.rs.length <= 20 /\ ∀ r ∈ l.rs, hrB r = true) -> ycd l host = false := fun h => by
   refine Bool.eq_false_iff.2 fun h2 => h ?_
   unfold ycd at h2
   simp only [Bool.and_eq_true, decide_eq_true_eq, List.all_eq_true] at h2
   exact h2
 (cbv; try simp only [syT, true_and, and_true])
 refine ⟨?_, ?_, fun k1 => ?_, fun k1 => ⟨fun k2 => ?_, fun k2 => ⟨⟨0, ?_⟩, fun i hi => ?_⟩⟩⟩
 · subst hL; exact h1
 · subst hL
   show (zcm host).length <= 9223372036854775807
   rw [hll]; exact h1
 · subst hL; subst hQ
   have k1 : ine (zfn (zcm host)) 0 = true := k1
   rw [ybz] at k1
   rw [zae]
   exact (no fun h => k1 h.1).symm
 · subst hL; subst hQ
   have k2 : ilt 20 (zaq l.rs.length) = true := k2
   rw [zq3, zal] at k2
   rw [zae]
   exact (no fun h => by have := h.2.1; omega).symm
 · (cbv; try simp only [syT, true_and, and_true])
   subst hL
   exact ⟨fun _ _ _ _ => trivial, rfl, Nat.zero_le _, fun j hj => by omega⟩
 · obtain ⟨hi1, hi2⟩ : hsI l i := by
     have h := hi
     rw [hL] at h
     exact h
   clear hi
   obtain ⟨i', hi'⟩ : ∃ i', i' = i + 1 := ⟨_, rfl⟩
   (cbv; try simp only [syT, true_and, and_true])
   have c20 : l.rs.length <= 20 := by
     have h := k2
     rw [hL] at h
     have h : ilt 20 (zaq l.rs.length) = false := h
     rw [zkx, zal] at h
     omega
   refine ⟨fun hlt => ?_, fun hge => ?_⟩
   · have hl : i < l.rs.length := by
       have h := hlt
       rw [hL] at h
       have h : ilt (zaq i) (zaq l.rs.length) = true := h
       rw [zq3, zal, zal] at h
       omega
     have hat : zb8 l.rs i = l.rs[i] := zb2 hl
     have hm : zb8 l.rs i ∈ l.rs := by rw [hat]; exact List.getElem_mem hl
     have hr := h2 _ hm
     refine ⟨?_, ?_, ?_, fun k3 => ?_, fun k3 => ⟨fun k4 => ?_, fun k4 => ⟨i', ?_⟩⟩⟩
     · subst hL
       show inR (zaq i) (zaq l.rs.length) = true
       rw [zq2, zal, zal]; omega
     · subst hL; exact hr
     · subst hL
       show (zcm (zb8 l.rs i).h).length <= 9223372036854775807
       rw [hll]; exact hr
     · subst hL; subst hQ
       have k3 : ine (zfn (zcm (zb8 l.rs i).h)) 0 = true := k3
       rw [ybz] at k3
       rw [zae]
       refine (no fun h => ?_).symm
       have := h.2.2 _ hm
       unfold hrB at this
       simp only [Bool.and_eq_true, decide_eq_true_eq] at this
       exact k3 this.1
     · subst hL; subst hQ
       have k4 : ilt 300 (slen (zb8 l.rs i).p) = true := k4
       rw [zq3, zia] at k4
       rw [zae]
       refine (no fun h => ?_).symm
       have := h.2.2 _ hm
       unfold hrB at this
       simp only [Bool.and_eq_true, decide_eq_true_eq] at this
       have := this.2
       omega
     · (cbv; try simp only [syT, true_and, and_true])
       subst hL
       have k3 : ine (zfn (zcm (zb8 l.rs i).h)) 0 = false := k3
       have k4 : ilt 300 (slen (zb8 l.rs i).p) = false := k4
       rw [yc0] at k3
       rw [zkx, zia] at k4
       refine ⟨fun _ _ _ _ => trivial, ?_, ⟨?_, fun j hj => ?_⟩, ?_⟩
       · show zlo .i64 (zaq i) 1 = zaq i'
         unfold zlo zaq
         rw [zi5]; omega
       · omega
       · by_cases hj2 : j < i
         · exact hi2 j hj2
         · have : j = i := by omega
           subst this
           unfold hrB
           rw [decide_eq_true k3, decide_eq_true (by omega)]; rfl
       · show l.rs.length - i' < l.rs.length - i
         omega
   · have hie : i = l.rs.length := by
       have h := hge
       rw [hL] at h
       have h : ilt (zaq i) (zaq l.rs.length) = false := h
       rw [zkx, zal, zal] at h
       omega
     subst hL; subst hQ
     have k1 : ine (zfn (zcm host)) 0 = false := k1
     rw [yc0] at k1
     rw [zae]
     show true = ycd l host
     unfold ycd
     rw [decide_eq_true k1, decide_eq_true c20, Bool.true_and, Bool.true_and]
     refine (List.all_eq_true.2 fun r hr => ?_).symm
     obtain ⟨j, hj, rfl⟩ := List.getElem_of_mem hr
     have := hi2 j (by omega)
     rw [show zb8 l.rs j = l.rs[j] from zb2 hj] at this
     exact this
end Sy
end Go.Proofs.YtogpolfhcbgcbaaGreatDoor
namespace Go.Proofs.YtogpolfhcbgcbaaGreatDoor
namespace Sy
open Go Go.RowKit
set_option maxRecDepth 100000
set_option linter.unusedSimpArgs false
set_option linter.unusedVariables false
theorem zq8 {s : List UInt8} (h : zfn s = 0) : s ≠ [] /\ s.length <= 64 := by
 unfold zfn at h
 split at h
 · cases h
 · rename_i h1
   split at h
   · cases h
   · rename_i h2
     exact ⟨h1, by omega⟩
theorem yrn {l : Ls} {host path : List UInt8} (h : ycd l host = true) (hp : path.length <= 300) : ygo ⟨l.rs, host, path⟩ /\ l.rs.length <= 20 /\ host ≠ [] := by
 have hll : ∀ s : List UInt8, (zcm s).length = s.length := fun s => by simp [zcm]
 unfold ycd at h
 simp only [Bool.and_eq_true, decide_eq_true_eq, List.all_eq_true] at h
 obtain ⟨h1, h2, h3⟩ := h
 obtain ⟨e1, e2⟩ := zq8 h1
 rw [hll] at e2
 refine ⟨⟨?_, ?_, ?_, fun r hr => ?_⟩, h2, fun e => e1 (by rw [e]; rfl)⟩
 · show l.rs.length <= 1000000
   omega
 · show host.length <= 900000
   omega
 · show path.length <= 900000
   omega
 · have := h3 r hr
   unfold hrB at this
   simp only [Bool.and_eq_true, decide_eq_true_eq] at this
   obtain ⟨_, q2⟩ := zq8 this.1
   rw [hll] at q2
   exact ⟨by omega, by omega⟩
end Sy
end Go.Proofs.YtogpolfhcbgcbaaGreatDoor
namespace Go.Proofs.YtogpolfhcbgcbaaGreatDoor
namespace Sy
open Go Go.RowKit
set_option maxRecDepth 100000
set_option linter.unusedSimpArgs false
set_option linter.unusedVariables false
theorem zsc {a b x y : Int} : zin a b x y = true ↔ x < a \/ a = x /\ y < b := by
 unfold zin
 simp only [Bool.or_eq_true, Bool.and_eq_true, decide_eq_true_eq]
theorem ym3 {a b x y : Int} : zin a b x y = false ↔ a < x \/ a = x /\ b <= y := by
 rw [Bool.eq_false_iff, ne_eq, zsc]
 omega
noncomputable def yfs (c : Mb) (j b : Nat) : Bool := zin (rk1 (mbQ c j)) (rk2 (mbQ c j)) (rk1 (mbQ c b)) (rk2 (mbQ c b))
theorem zpb {c : Mb} {j b : Nat} : yfs c j b = true ↔ rk1 (mbQ c b) < rk1 (mbQ c j) \/ rk1 (mbQ c j) = rk1 (mbQ c b) /\ rk2 (mbQ c b) < rk2 (mbQ c j) := zsc
theorem zk4 {c : Mb} {j b : Nat} : yfs c j b = false ↔ rk1 (mbQ c j) < rk1 (mbQ c b) \/ rk1 (mbQ c j) = rk1 (mbQ c b) /\ rk2 (mbQ c j) <= rk2 (mbQ c b) := ym3
structure zj4 (c : Mb) (n b : Nat) : Prop where
 lt : b < n
 mt : mtB (mbQ c b) = true
 max : ∀ j, j < n -> yfs c j b = false
 first : ∀ j, j < b -> yfs c b j = true
theorem ztw {q : Mq} (h : mtB q = true) : 1 <= rk1 q /\ 0 <= rk2 q /\ rk1 q = rkA q.h /\ rk2 q = rkB q.p := by
 have hc0 : 0 <= zld q.h [46] := Int.natCast_nonneg _
 unfold rk1 rk2
 rw [if_pos h, if_pos h]
 refine ⟨?_, Int.natCast_nonneg _, rfl, rfl⟩
 unfold rkA
 split <;> omega
theorem yfr {q : Mq} (h : mtB q = false) : rk1 q = 0 /\ rk2 q = 0 := by
 unfold rk1 rk2
 rw [if_neg (by rw [h]; decide), if_neg (by rw [h]; decide)]
 exact ⟨rfl, rfl⟩
theorem zos (c : Mb) : ∀ n, (bsN c n = ⟨0, false, 0, 0⟩ /\ ∀ j, j < n -> mtB (mbQ c j) = false) \/ ∃ b : Nat, zj4 c n b /\ bsN c n = ⟨b, true, rk1 (mbQ c b), rk2 (mbQ c b)⟩
 | 0 => .inl ⟨by rw [bsN], fun j h => absurd h (Nat.not_lt_zero j)⟩
 | n + 1 => by
   rcases zos c n with ⟨h1, h2⟩ | ⟨b, hb, he⟩
   · rw [bsN, h1]
     cases hm : mtB (mbQ c n) with
     | true =>
       obtain ⟨p1, p2, _⟩ := ztw hm
       rw [if_pos (zsc.2 (.inl (by show (0 : Int) < _; omega)))]
       refine .inr ⟨n, ⟨Nat.lt_succ_self n, hm, fun j hj => ?_, fun j hj => ?_⟩, rfl⟩
       · by_cases e : j = n
         · subst e; exact zk4.2 (by omega)
         · obtain ⟨q1, q2⟩ := yfr (h2 j (by omega))
           exact zk4.2 (by omega)
       · obtain ⟨q1, q2⟩ := yfr (h2 j hj)
         exact zpb.2 (by omega)
     | false =>
       obtain ⟨q1, q2⟩ := yfr hm
       rw [if_neg (by rw [q1, q2]; decide)]
       refine .inl ⟨rfl, fun j hj => ?_⟩
       by_cases e : j = n
       · subst e; exact hm
       · exact h2 j (by omega)
   · rw [bsN, he]
     obtain ⟨p1, p2, _⟩ := ztw hb.mt
     split
     · rename_i hg
       have hg : yfs c n b = true := hg
       have hm : mtB (mbQ c n) = true := by
         cases hm : mtB (mbQ c n) with
         | true => rfl
         | false =>
           obtain ⟨q1, q2⟩ := yfr hm
           have := zpb.1 hg
           omega
       refine .inr ⟨n, ⟨Nat.lt_succ_self n, hm, fun j hj => ?_, fun j hj => ?_⟩, rfl⟩
       · by_cases e : j = n
         · subst e; exact zk4.2 (by omega)
         · have h1 := zk4.1 (hb.max j (by omega))
           have h2 := zpb.1 hg
           exact zk4.2 (by omega)
       · have h1 := zk4.1 (hb.max j (by omega))
         have h2 := zpb.1 hg
         exact zpb.2 (by omega)
     · rename_i hg
       have hg : yfs c n b = false := by rw [Bool.not_eq_true] at hg; exact hg
       refine .inr ⟨b, ⟨Nat.lt_succ_of_lt hb.lt, hb.mt, fun j hj => ?_, hb.first⟩, rfl⟩
       by_cases e : j = n
       · subst e; exact hg
       · exact hb.max j (by omega)
theorem yih {c : Mb} {n b b' : Nat} (h : zj4 c n b) (h' : zj4 c n b') : b = b' := by
 rcases Nat.lt_trichotomy b b' with hl | hl | hl
 · have := h'.first b hl
   rw [h.max b' h'.lt] at this
   cases this
 · exact hl
 · have := h.first b' hl
   rw [h'.max b h.lt] at this
   cases this
theorem yif {c : Mb} {b : Nat} (h : zj4 c c.rs.length b) : bsS c = true /\ bsB c = b := by
 unfold bsS bsB
 rcases zos c c.rs.length with ⟨h1, h2⟩ | ⟨b', hb, he⟩
 · have := h2 b h.lt
   rw [h.mt] at this
   cases this
 · rw [he, yih h hb]
   exact ⟨rfl, rfl⟩
theorem ysr {c : Mb} (h : bsS c = true) : ∃ b : Nat, bsB c = b /\ zj4 c c.rs.length b := by
 rcases zos c c.rs.length with ⟨h1, h2⟩ | ⟨b, hb, he⟩
 · unfold bsS at h
   rw [h1] at h
   cases h
 · exact ⟨b, (yif hb).2, hb⟩
theorem yog {c : Mb} {j : Nat} (hj : j < c.rs.length) (h : mtB (mbQ c j) = true) : bsS c = true := by
 rcases zos c c.rs.length with ⟨h1, h2⟩ | ⟨b, hb, he⟩
 · rw [h2 j hj] at h
   cases h
 · exact (yif hb).1
theorem yb2 {α : Type} {V : Vw α} {l : List α} {i q : Nat} (hq : q < l.length - 1) (hi : i < l.length) : zj2 V (l.eraseIdx i) q = zj2 V l (if q < i then q else q + 1) := by
 have h1 : q < (l.eraseIdx i).length := by rw [List.length_eraseIdx_of_lt hi]; exact hq
 rw [zb2 h1, List.getElem_eraseIdx]
 split
 · rw [zb2 (by omega)]
 · rw [zb2 (by omega)]
theorem zmg {l : List Rt} {n q : Nat} (hq : q < l.length - 1) (hn : n < l.length) : zb8 (l.eraseIdx n) q = zb8 l (if q < n then q else q + 1) := yb2 (V := rtV) hq hn
theorem yea {l : List Rt} {host path : List UInt8} {n i : Nat} (hn : n < l.length) (hne : n ≠ i) (h : zj4 ⟨l, host, path⟩ l.length i) : zj4 ⟨l.eraseIdx n, host, path⟩ (l.eraseIdx n).length (if n < i then i - 1 else i) := by
 have hl : (l.eraseIdx n).length = l.length - 1 := List.length_eraseIdx_of_lt hn
 have hi := h.lt
 have hq : ∀ q, q < l.length - 1 -> mbQ ⟨l.eraseIdx n, host, path⟩ q = mbQ ⟨l, host, path⟩ (if q < n then q else q + 1) := by
   intro q hq
   unfold mbQ
   rw [show zb8 (Mb.rs ⟨l.eraseIdx n, host, path⟩) q = zb8 l (if q < n then q else q + 1) from zmg hq hn]
 have hg : ∀ q r, q < l.length - 1 -> r < l.length - 1 -> yfs ⟨l.eraseIdx n, host, path⟩ q r = yfs ⟨l, host, path⟩ (if q < n then q else q + 1) (if r < n then r else r + 1) := by
   intro q r h1 h2
   unfold yfs
   rw [hq q h1, hq r h2]
 have hb : (if (if n < i then i - 1 else i) < n then (if n < i then i - 1 else i) else (if n < i then i - 1 else i) + 1) = i := by
   split
   · split <;> omega
   · split <;> omega
 have hlt : (if n < i then i - 1 else i) < l.length - 1 := by split <;> omega
 rw [hl]
 refine ⟨hlt, ?_, fun j hj => ?_, fun j hj => ?_⟩
 · rw [hq _ hlt, hb]; exact h.mt
 · rw [hg _ _ hj hlt, hb]
   exact h.max _ (by split <;> omega)
 · rw [hg _ _ hlt (by omega), hb]
   refine h.first _ ?_
   revert hj
   split <;> split <;> omega
theorem zuw (b : UInt8) : (yji b).toNat = if 65 <= b.toNat /\ b.toNat <= 90 then b.toNat + 32 else b.toNat := by
 have := b.toNat_lt
 unfold yji ybm
 split
 · rename_i h
   rw [if_pos (by omega), UInt8.toNat_ofNat']
   omega
 · rename_i h
   rw [if_neg (by omega), UInt8.toNat_ofNat']
   omega
theorem yqz (b : UInt8) : yji b = 46 ↔ b = 46 := by
 rw [<- UInt8.toNat_inj, <- UInt8.toNat_inj, zuw]
 show (_ = 46) ↔ (_ = 46)
 split <;> omega
theorem yr0 (b : UInt8) : yji b = 42 ↔ b = 42 := by
 rw [<- UInt8.toNat_inj, <- UInt8.toNat_inj, zuw]
 show (_ = 42) ↔ (_ = 42)
 split <;> omega
theorem ynw (s : List UInt8) : (zcm s).count 46 = s.count 46 := by
 induction s with
 | nil => rfl
 | cons b s ih =>
   show (yji b :: zcm s).count 46 = _
   rw [List.count_cons, List.count_cons, ih]
   congr 1
   by_cases h : b = 46
   · subst h; rfl
   · rw [if_neg (by simpa using fun e => h ((yqz b).1 e)), if_neg (by simpa using h)]
theorem zrt (s : List UInt8) (b : UInt8) : zh3 s [b] = true ↔ s.head? = some b := by
 unfold zh3
 cases s with
 | nil => simp
 | cons x s => simp
theorem yao (s : List UInt8) : zh3 (zcm s) [42] = zh3 s [42] := by
 rw [Bool.eq_iff_iff, zrt, zrt]
 cases s with
 | nil => rfl
 | cons b s =>
   show some (yji b) = some 42 ↔ some b = some 42
   rw [Option.some_inj, Option.some_inj, yr0]
theorem yic (s : List UInt8) : zld s [46] = zld (zcm s) [46] := by
 show ((s.count 46 : Nat) : Int) = ((zcm s).count 46 : Nat)
 rw [ynw]
theorem znh (s : List UInt8) : rkA s = rkA (zcm s) := by
 unfold rkA
 rw [<- yic, yao]
theorem yl5 {h host : List UInt8} (hc : zn2 h host = true) (hs : zh3 host [42] = false) : rkA h <= rkA host := by
 unfold zn2 at hc
 rw [Bool.or_eq_true] at hc
 rcases hc with hc | hc
 · rw [znh h, znh host, of_decide_eq_true hc]
   exact Int.le_refl _
 · rw [Bool.and_eq_true, Bool.and_eq_true, Bool.and_eq_true] at hc
   obtain ⟨h1, _, _, h4⟩ := hc
   have e1 : zcm h = [42, 46] ++ cpT (zcm h) [42, 46] := by
     have h1' : (zcm h).take 2 = [42, 46] := by simpa [zh3] using h1
     unfold cpT
     rw [if_pos h1]
     conv => lhs; rw [<- List.take_append_drop 2 (zcm h), h1']
     rfl
   obtain ⟨t, ht⟩ : ∃ t, t = cpT (zcm h) [42, 46] := ⟨_, rfl⟩
   rw [<- ht] at e1 h4
   unfold yov at h4
   rw [Bool.and_eq_true] at h4
   have h4 := of_decide_eq_true h4.2
   have e2 : zcm host = (zcm host).take ((zcm host).length - (46 :: t : List UInt8).length) ++ 46 :: t := by
     conv => lhs; rw [<- List.take_append_drop ((zcm host).length - (46 :: t : List UInt8).length) (zcm host), h4]
   have c1 : zld (zcm h) [46] = 1 + (t.count 46 : Nat) := by
     show (((zcm h).count 46 : Nat) : Int) = _
     rw [e1, List.count_append]
     rfl
   have c2 : 1 + ((t.count 46 : Nat) : Int) <= zld (zcm host) [46] := by
     show _ <= (((zcm host).count 46 : Nat) : Int)
     rw [e2, List.count_append, List.count_cons_self]
     omega
   have p1 : zh3 (zcm h) [42] = true := by rw [e1]; rfl
   rw [znh h, znh host]
   unfold rkA
   rw [if_pos p1, yao, if_neg (by rw [hs]; decide), c1]
   omega
theorem zza (p : List UInt8) : zto p p = true := by
 unfold zto
 rw [decide_eq_true (Nat.le_refl _), List.take_length, decide_eq_true rfl]
 rfl
theorem ykc {a b : List UInt8} (h : zto a b = true) : rkB a <= rkB b := by
 unfold zto at h
 rw [Bool.and_eq_true] at h
 have := of_decide_eq_true h.1
 unfold rkB
 omega
theorem ydh (s : List UInt8) : zn2 s s = true := by
 unfold zn2
 rw [decide_eq_true rfl, Bool.true_or]
theorem yje {host path : List UInt8} (hp : ze5 path = 0) : mtB ⟨host, path, host, path⟩ = true := by
 show (decide (ze5 path = 0) && (zn2 host host && zto path path)) = true
 rw [decide_eq_true hp, ydh, zza]
 rfl
theorem ylo {h p host path : List UInt8} (hs : zh3 host [42] = false) (hp : ze5 path = 0) (hm : mtB ⟨h, p, host, path⟩ = true) : rk1 ⟨h, p, host, path⟩ <= rk1 ⟨host, path, host, path⟩ /\ rk2 ⟨h, p, host, path⟩ <= rk2 ⟨host, path, host, path⟩ := by
 obtain ⟨_, _, a1, a2⟩ := ztw hm
 obtain ⟨_, _, b1, b2⟩ := ztw (yje (host := host) hp)
 have hm : (decide (ze5 path = 0) && (zn2 h host && zto p path)) = true := hm
 rw [Bool.and_eq_true, Bool.and_eq_true] at hm
 rw [a1, a2, b1, b2]
 exact ⟨yl5 hm.2.1 hs, ykc hm.2.2⟩
theorem zke {l : List Rt} {x : Rt} {q : Nat} (hq : q < l.length + 1) : zb8 (l ++ [x]) q = if q < l.length then zb8 l q else x := by
 unfold zb8
 rw [zb2 (V := rtV) (by simpa using hq)]
 split
 · rename_i h
   rw [List.getElem_append_left h, zb2 (V := rtV) h]
 · rename_i h
   obtain rfl : q = l.length := by omega
   rw [List.getElem_append_right (Nat.le_refl _)]; simp
theorem yig {l : List Rt} {host path : List UInt8} (hs : zh3 host [42] = false) (hp : ze5 path = 0) : ∃ b : Nat, b < l.length + 1 /\ bsS ⟨l ++ [⟨host, path, [], 0⟩], host, path⟩ = true /\ bsB ⟨l ++ [⟨host, path, [], 0⟩], host, path⟩ = b /\ mtB (mbQ ⟨l ++ [⟨host, path, [], 0⟩], host, path⟩ b) = true
   /\ rk1 (mbQ ⟨l ++ [⟨host, path, [], 0⟩], host, path⟩ b) = rk1 (mbQ ⟨l ++ [⟨host, path, [], 0⟩], host, path⟩ l.length) /\ rk2 (mbQ ⟨l ++ [⟨host, path, [], 0⟩], host, path⟩ b) = rk2 (mbQ ⟨l ++ [⟨host, path, [], 0⟩], host, path⟩ l.length) := by
 obtain ⟨c, hc⟩ : ∃ c : Mb, c = ⟨l ++ [⟨host, path, [], 0⟩], host, path⟩ := ⟨_, rfl⟩
 have hl : c.rs.length = l.length + 1 := by rw [hc]; simp
 have hq : mbQ c l.length = ⟨host, path, host, path⟩ := by
   rw [hc]
   unfold mbQ
   rw [show zb8 (Mb.rs ⟨l ++ [⟨host, path, [], 0⟩], host, path⟩) l.length = ⟨host, path, [], 0⟩ by
     show zb8 (l ++ [⟨host, path, [], 0⟩]) l.length = _
     rw [zke (by omega), if_neg (by omega)]]
 have hm : mtB (mbQ c l.length) = true := by rw [hq]; exact yje hp
 obtain ⟨b, hb, hB⟩ := ysr (yog (by omega) hm)
 rw [<- hc]
 have hlt := hB.lt
 have ht : rk1 (mbQ c b) <= rk1 (mbQ c l.length) /\ rk2 (mbQ c b) <= rk2 (mbQ c l.length) := by
   rw [hq]
   have he : mbQ c b = ⟨(zb8 c.rs b).h, (zb8 c.rs b).p, host, path⟩ := by rw [hc]; rfl
   have hm2 := hB.mt
   rw [he] at hm2 |-
   exact ylo hs hp hm2
 have hmx := zk4.1 (hB.max l.length (by omega))
 exact ⟨b, by omega, (yif hB).1, hb, hB.mt, by omega, by omega⟩
end Sy
end Go.Proofs.YtogpolfhcbgcbaaGreatDoor
namespace Go.Proofs.YtogpolfhcbgcbaaGreatDoor
namespace Sy
open Go Go.RowKit
set_option maxRecDepth 100000
set_option maxHeartbeats 4000000
set_option linter.unusedSimpArgs false
set_option linter.unusedVariables false
theorem zoo : zgm Tryz.prog (ydm 10 37 4 std) := by
 intro raw ob T h hp
 unfold ydm at h
 simp only at h
 split at h
 rotate_left
 · cases h
 rename_i s n get
 cases hs : zai s 4 with
 | false => rw [hs] at h; cases h
 | true =>
 rw [hs] at h
 cases h
 have hp : n <= 1000000 := hp
 refine yqu (fun h0 => ?_) (fun h0 => ?_) (fun h0 => ?_)
 · refine zbi (T := tt) (S := noS) (lo := noA) (lb := noA) 5 (fn := Tryz.f10) (xs := fun L => [.lst 4 n get]) (rts := fun _ => [.sl 900 4 0 n]) (O := fun L => []) (O1 := fun L => [(900, .row 37 4 n get)]) rfl rfl (by kernel_rfl) (by kernel_rfl) (by kernel_rfl) zaa (zbx _) (by kernel_rfl) ?_
   intro L P' Q' hL hP hQ
   (cbv; try simp only [syT, true_and, and_true])
   (subst hL; subst hQ; simp only [L2, L3, std] at *; try simp only [syS, reduceCtorEq, Int.reduceToNat, Int.reduceAdd, Int.reduceSub] at *)
   simp only [zbv] at *
   exact ⟨h0, Nat.le_trans (Nat.mul_le_mul_right _ (show 0 + n <= 1000000 by omega)) (by decide), by omega⟩
 · refine zbi (T := tt) (S := noS) (lo := noA) (lb := noA) 5 (fn := Tryz.f10) (xs := fun L => [.nils]) (rts := fun _ => [.sl 900 4 0 n]) (O := fun L => []) (O1 := fun L => [(900, .row 37 4 n get)]) rfl rfl (by kernel_rfl) (by kernel_rfl) (by kernel_rfl) zaa (zbx _) (by kernel_rfl) ?_
   intro L P' Q' hL hP hQ
   (cbv; try simp only [syT, true_and, and_true])
   (subst hL; subst hQ; simp only [L2, L3, std] at *; try simp only [syS, reduceCtorEq, Int.reduceToNat, Int.reduceAdd, Int.reduceSub] at *)
   exact ⟨by omega, by omega⟩
 · refine zbi (T := tt) (S := noS) (lo := noA) (lb := noA) 5 (fn := Tryz.f10) (xs := fun L => [.emp]) (rts := fun _ => [.sl 900 4 0 n]) (O := fun L => []) (O1 := fun L => [(900, .row 37 4 n get)]) rfl rfl (by kernel_rfl) (by kernel_rfl) (by kernel_rfl) zaa (zbx _) (by kernel_rfl) ?_
   intro L P' Q' hL hP hQ
   (cbv; try simp only [syT, true_and, and_true])
   (subst hL; subst hQ; simp only [L2, L3, std] at *; try simp only [syS, reduceCtorEq, Int.reduceToNat, Int.reduceAdd, Int.reduceSub] at *)
   exact ⟨⟨by omega, by omega⟩, ⟨by omega, fun i j hi hj => by omega⟩, by omega⟩
theorem yd6 {n n1 k : Nat} {i j : Int} {get : Nat -> Nat -> AV} (hn : n <= 1000000) (hi : i = k) (hj : j = i + 1) (h1 : k < n) (hn1 : n1 = n - 1) : zbf Tryz.prog 13 [.sl 500000 4 0 n, .int .i64 i, .int .i64 j] [(500000, .row 37 4 n get)] (.sl 900 4 0 n1) [(900, .row 37 4 n1 (yp4 get k))] := by
 refine ybg (T := tt) (S := fun L => zcv [] []) (lo := noA) (lb := noA) 5 (fn := Tryz.f13) (xs := fun L => [.sl 500000 4 0 n, .int .i64 i, .int .i64 j]) (rts := fun _ => [.sl 900 4 0 n1]) (O := fun L => [(500000, .row 37 4 n get)]) (O1 := fun L => [(900, .row 37 4 n1 (yp4 get k))]) rfl rfl (by kernel_rfl) (by kernel_rfl) (by kernel_rfl) zaa (zb1 trivial trivial) (by kernel_rfl) ?_
 intro L P' Q' hL hP hQ
 (cbv; try simp only [syT, true_and, and_true])
 intro cap hcap
 cbv at hcap
 (cbv; try simp only [syT, true_and, and_true])
 subst hL; subst hQ
 have hcap : n <= cap := hcap
 have hi2 : i = ((k : Nat) : Int) := hi
 clear hi
 subst hi2; subst hj; subst hn1
 have e1 : ((k : Int) + 1).toNat = k + 1 := by omega
 simp only [L2, L3, std] at *
 simp only [sySet, ymc, yv4, yv5, yqr, yqs, yqp, yqq, yt1, ypo, Int.toNat_natCast, e1, zal, zzn, zrb, yp4, Bool.true_and] at *
 repeat' first | refine And.intro ?_ ?_ | (intro _)
 all_goals try omega
 all_goals try contradiction
 all_goals try (rename_i q j hq hj; repeat' split)
 all_goals first | rfl | (exfalso; omega) | exact congrFun (congrArg _ (by omega)) _ | skip
theorem zsy : zgm Tryz.prog (yv9 13 37 4 std) := by
 intro raw ob T h hp
 unfold yv9 at h
 simp only at h
 split at h
 rotate_left
 · cases h
 rename_i a s n i j
 split at h
 rotate_left
 · cases h
 cases h
 obtain ⟨p1, p2, p3, p4⟩ : ysd n i j := hp
 exact yd6 p1 (k := i.toNat) (by omega) p4 (by omega) rfl
def yow (s : List UInt8) : Prop := s.length <= maxLen
def ypb (x : Rt) : Prop := yow x.h
def yf0 (x : Ls) : Prop := ∀ r ∈ x.rs, ypb r
theorem yax {H : Type} {enc : TypeId × Value -> H} {W : World} : zei enc Tryz.prog W 37 Rt 4 (rtC std) ypb :=
 (zfs Tryz.underlying37 (by kernel_rfl) (zbo rfl (opens_str Tryz.underlying9 (by kernel_rfl)) (zbo rfl (opens_str Tryz.underlying9 (by kernel_rfl)) (zbo rfl (opens_str Tryz.underlying9 (by kernel_rfl)) (zbo rfl (opens_int Tryz.underlying35 (by kernel_rfl)) (zii _)))))).turn
   (fun y => Rt.mk y.1 y.2.1 y.2.2.1 y.2.2.2.1) (fun y h => h.1)
   (fun y h j hj v r => by match j, hj with | 0, _ => exact r | 1, _ => exact r | 2, _ => exact r | 3, _ => exact r)
theorem opens_LsZ {H : Type} {enc : TypeId × Value -> H} {W : World} : zei enc Tryz.prog W 28 Ls 7 (lsC std) yf0 :=
 (zfs Tryz.underlying28 (by kernel_rfl) (zbo rfl (opens_str Tryz.underlying9 (by kernel_rfl)) (zbo rfl yg6 (zbo rfl (zx6 (V := rtV) Tryz.underlying26 (by kernel_rfl) yax (by decide)) (zii _))))).turn
   (fun y => Ls.mk y.1 y.2.1 y.2.2.1) (fun y h => h.2.2.1.2)
   (fun y h j hj v r => by match j, hj with | 0, _ => exact r | 1, _ => exact r | 2, _ => exact r | 3, _ => exact r | 4, _ => exact r | 5, _ => exact r | 6, _ => exact r)
theorem ybi : maxLen <= 9223372036854775807 := by decide
theorem yrm {y : Ls} {host : List UInt8} (hy : yf0 y) (hh : yow host) : ymm y host := ⟨Nat.le_trans hh ybi, fun r hr => Nat.le_trans (hy r hr) ybi⟩
theorem lsb {y : Ls} {n : Nat} {g : Nat -> Nat -> AV} {rs : List Rt} (hn : n = rs.length) (hg : ∀ q j, q < n -> j < 4 -> g q j = rtC std (zb8 rs q) j) : zhh (.agg [.str y.n, .int .u8 y.pl.a, .int .u8 y.pl.b, .int .u8 y.pl.c, .int .u8 y.pl.d, .int .u16 y.pl.p, .lst 4 n g]) /\ zd6 (.agg [.str y.n, .int .u8 y.pl.a, .int .u8 y.pl.b, .int .u8 y.pl.c, .int .u8 y.pl.d, .int .u16 y.pl.p, .lst 4 n g]) = ⟨y.n, y.pl, rs⟩ := by
 have h1 := ztz zha hn hg
 refine ⟨⟨rfl, ⟨_, rfl⟩, ⟨⟨_, rfl⟩, ⟨_, rfl⟩, ⟨_, rfl⟩, ⟨_, rfl⟩, ⟨_, rfl⟩⟩, h1.1⟩, ?_⟩
 show Ls.mk y.n _ (rdW rtV (.lst 4 n g)) = _
 rw [show rdW rtV (.lst 4 n g) = rs from h1.2]
 rfl
theorem ysx {l : List Rt} {host path : List UInt8} {q j : Nat} (hq : q < l.length + 1) (hj : j < 4) : zgp std (zbc q l.length) (rtC std (zb8 l q) j) (zbk .dead [.str host, .str path, .str [], .int .u64 0] j) = rtC std (zb8 (l ++ [⟨host, path, [], 0⟩]) q) j := by
 rw [zke hq]
 by_cases h : q < l.length
 · rw [zot h, if_pos h]
   match j, hj with
   | 0, _ => rfl
   | 1, _ => rfl
   | 2, _ => rfl
   | 3, _ => rfl
 · rw [ztc h, if_neg h]
   match j, hj with
   | 0, _ => rfl
   | 1, _ => rfl
   | 2, _ => rfl
   | 3, _ => rfl
theorem yqa {l : List Rt} {host path : List UInt8} {b : Nat} (hb : b < l.length + 1) : znv std (bif zbc b l.length then (zb8 l b).h else host) (bif zbc b l.length then (zb8 l b).p else path) host path = mbQ ⟨l ++ [⟨host, path, [], 0⟩], host, path⟩ b := by
 unfold mbQ
 rw [show zb8 (Mb.rs ⟨l ++ [⟨host, path, [], 0⟩], host, path⟩) b = if b < l.length then zb8 l b else ⟨host, path, [], 0⟩ from zke hb]
 by_cases h : b < l.length
 · rw [zot h, if_pos h]; rfl
 · rw [ztc h, if_neg h]; rfl
theorem ymr {s : List UInt8} (hs : s ≠ []) (h : ieq (zgo s 0) 42 = false) : zh3 s [42] = false /\ inR 0 (slen s) = true := by
 cases s with
 | nil => exact absurd rfl hs
 | cons x s =>
   refine ⟨?_, ?_⟩
   · rw [Bool.eq_false_iff]
     intro h2
     rw [zrt] at h2
     have h2 : some x = some 42 := h2
     cases h2
     have e : zgo (42 :: s) 0 = 42 := rfl
     rw [e] at h
     exact absurd h (by decide)
   · rw [zq2, zia, List.length_cons]; omega
theorem ftt : zfo (.bool true) (.bool true) := by rw [zae]
theorem ygn (y : Ls) (hy : yf0 y) (host path : List UInt8) (hh : yow host) (hp : yow path) (drop : Int) (hd : (Lit.int .u8 drop).wf = true) : za9 Tryz.prog 3 [.agg ((List.range 7).map (lsC std y)), .str host, .str path, .int .u8 drop] (.bool true) := by
 refine za6 (T := tt) (S := fun L => zcv [tru 6, yml L, zrg L, yie L, ygh L, yfq L] [ydm 10 37 4 L, yv9 13 37 4 L]) (lo := fun _ => noA std) (lb := noA) 5 (fn := Tryz.f3) (xs := fun L => [.agg [lsC L y 0, lsC L y 1, lsC L y 2, lsC L y 3, lsC L y 4, lsC L y 5, lsC L y 6], .str host, .str path, .int .u8 drop]) rfl rfl (by kernel_rfl) (by kernel_rfl) rfl zaa (zb1 ⟨zbw zy7, yhd, zws, zvx, zum, ztv, trivial⟩ ⟨zoo, zsy, trivial⟩) (by kernel_rfl) ?_
 intro L P' Q' hL hP hQ
 have hG : L zd6 (.agg [.str (L Ls.n y), .int .u8 (L Pl.a (L Ls.pl y)), .int .u8 (L Pl.b (L Ls.pl y)), .int .u8 (L Pl.c (L Ls.pl y)), .int .u8 (L Pl.d (L Ls.pl y)), .int .u16 (L Pl.p (L Ls.pl y)), .lst 4 (L zcd (L Ls.rs y)) (fun i => rtC L (L (L zb8 (L Ls.rs y)) i))]) = y := by subst hL; exact (gK zd9 y _ rfl).2
 have hO : L zhh (.agg [.str (L Ls.n y), .int .u8 (L Pl.a (L Ls.pl y)), .int .u8 (L Pl.b (L Ls.pl y)), .int .u8 (L Pl.c (L Ls.pl y)), .int .u8 (L Pl.d (L Ls.pl y)), .int .u16 (L Pl.p (L Ls.pl y)), .lst 4 (L zcd (L Ls.rs y)) (fun i => rtC L (L (L zb8 (L Ls.rs y)) i))]) := by subst hL; exact (gK zd9 y _ rfl).1
 (cbv; try simp only [syT, true_and, and_true])
 simp only [hG, hO, true_and]
 obtain ⟨XA, hXA⟩ : ∃ X, X = AV.agg [.str (L Ls.n y), .int .u8 (L Pl.a (L Ls.pl y)), .int .u8 (L Pl.b (L Ls.pl y)), .int .u8 (L Pl.c (L Ls.pl y)), .int .u8 (L Pl.d (L Ls.pl y)), .int .u16 (L Pl.p (L Ls.pl y)), .lst 4 (L (L Nat.add (L zcd (L Ls.rs y))) 1) (fun i j => zgp L (L2 L zbc (L2 L Nat.add 0 i) (L zcd (L Ls.rs y))) (rtC L (L (L zb8 (L Ls.rs y)) (L2 L Nat.add 0 i)) j) (zbk .dead [.str host, .str path, .str [], .int .u64 0] j))] := ⟨_, rfl⟩
 rw [<- hXA]
 have hX : L zhh XA /\ L zd6 XA = ⟨y.n, y.pl, y.rs ++ [⟨host, path, [], 0⟩]⟩ := by
   subst hL
   rw [hXA]
   refine lsb (y := y) (n := y.rs.length + 1) (rs := y.rs ++ [⟨host, path, [], 0⟩]) (by rw [List.length_append]; exact rfl) fun q j hq hj => ?_
   show zgp std (zbc (Nat.add 0 q) y.rs.length) (rtC std (zb8 y.rs (Nat.add 0 q)) j) (zbk .dead [.str host, .str path, .str [], .int .u64 0] j) = _
   rw [show Nat.add 0 q = q from Nat.zero_add q]
   exact ysx hq hj
 simp only [hX.1, hX.2, true_and]
 subst hL; subst hQ
 have k1 : (std not (std (std ycd y) host) = false) -> ycd y host = true := fun h => by
   have h : (!ycd y host) = false := h
   simpa using h
 have k2 : (std (std ilt 300) (std slen path) = false) -> path.length <= 300 := fun h => by
   have h : ilt 300 (slen path) = false := h
   rw [zkx, zia] at h
   omega
 have k3 : (std (std ine (std ze5 path)) 0 = false) -> ze5 path = 0 := fun h => by
   have h : ine (ze5 path) 0 = false := h
   rw [yc0] at h
   exact h
 refine ⟨fun h => absurd h (by decide), fun _ => ⟨yrm hy hh, fun _ => ftt, fun c1 => ⟨fun _ => ftt, fun c2 => ⟨Nat.le_trans (k2 c2) (by decide), fun _ => ftt, fun c3 => ?_⟩⟩⟩⟩
 have c1 := k1 c1
 have c2 := k2 c2
 have c3 := k3 c3
 obtain ⟨hmb, hl, hne⟩ := yrn c1 c2
 clear k1 k2 k3
 refine ⟨?_, fun _ => ftt, fun c4 => ?_⟩
 · show inR 0 (slen host) = true
   rw [zq2, zia]
   have := List.length_pos_iff.2 hne
   omega
 obtain ⟨hs, _⟩ := ymr hne c4
 obtain ⟨b, hb, hS, hB, hm, hr1, hr2⟩ := yig (l := y.rs) hs c3
 have hl' : zcd y.rs = y.rs.length := rfl
 have eB : bsB (zut std ⟨y.n, y.pl, y.rs ++ [⟨host, path, [], 0⟩]⟩ host path) = (b : Int) := hB
 have eS : bsS (zut std ⟨y.n, y.pl, y.rs ++ [⟨host, path, [], 0⟩]⟩ host path) = true := hS
 have hmbA : ygo (zut std ⟨y.n, y.pl, y.rs ++ [⟨host, path, [], 0⟩]⟩ host path) := by
   obtain ⟨m1, m2, m3, m4⟩ := hmb
   refine ⟨?_, m2, m3, fun r hr => ?_⟩
   · show (y.rs ++ [_]).length <= 1000000
     rw [List.length_append]; show _ + 1 <= _; omega
   · have hr : r ∈ y.rs ++ [(⟨host, path, [], 0⟩ : Rt)] := hr
     rw [List.mem_append, List.mem_singleton] at hr
     rcases hr with hr | rfl
     · exact m4 r hr
     · exact ⟨m2, m3⟩
 have z0 : ∀ k : Nat, Nat.add 0 k = k := fun k => Nat.zero_add k
 have tb : ((b : Nat) : Int).toNat = b := Int.toNat_natCast b
 have tn : (zaq y.rs.length).toNat = y.rs.length := Int.toNat_natCast _
 have q1 := yqa (l := y.rs) (host := host) (path := path) hb
 have q2 := yqa (l := y.rs) (host := host) (path := path) (b := y.rs.length) (by omega)
 have o1 : zpo (mbQ ⟨y.rs ++ [⟨host, path, [], 0⟩], host, path⟩ b) := zus hmbA (by show b < (y.rs ++ [_]).length; rw [List.length_append]; exact hb)
 have o2 : zpo (mbQ ⟨y.rs ++ [⟨host, path, [], 0⟩], host, path⟩ y.rs.length) := zus hmbA (by show y.rs.length < (y.rs ++ [_]).length; rw [List.length_append]; show _ < _ + 1; omega)
 have fe : ∀ x : Int, inM x -> fEq .f64 (fOf x) (fOf x) = true := fun x hx => by
   obtain ⟨n, rfl, hn⟩ := zgy hx
   have hn' : n < 2 ^ 53 := Nat.lt_of_le_of_lt hn (by decide)
   rw [ycw hn' hn', decide_eq_true rfl]
 obtain ⟨rin1, rin2⟩ := yl4 o2
 have hdr : ∃ n : Nat, (IntKind.i64.wrap drop).tmod (zaq y.rs.length) = zaq n /\ (y.rs.length ≠ 0 -> n < y.rs.length) := by
   have hbd := bounds_u8 hd
   have hw : IntKind.i64.wrap drop = drop := by rw [zi5]; omega
   rw [hw, zal, Int.tmod_eq_emod_of_nonneg hbd.1]
   by_cases h0 : y.rs.length = 0
   · rw [h0]
     exact ⟨drop.toNat, by rw [zal]; simp; omega, fun h => absurd rfl h⟩
   · have p1 := Int.emod_nonneg drop (show (y.rs.length : Int) ≠ 0 by omega)
     have p2 := Int.emod_lt_of_pos drop (show (0 : Int) < (y.rs.length : Int) by omega)
     exact ⟨(drop % (y.rs.length : Int)).toNat, by rw [zal]; omega, fun _ => by omega⟩
 obtain ⟨n, hn, hnl⟩ := hdr
 simp only [std, L2, L3]
 simp only [eB, eS, hl', hn, z0, tb, tn]
 simp only [q1, q2, hm, hr1, hr2]
 rw [fe _ rin1, fe _ rin2]
 have hin : ∀ k : Nat, k < y.rs.length + 1 -> inR ((k : Nat) : Int) (zaq (y.rs.length.add 1)) = true := fun k hk => by
   rw [zq2, zal]
   show 0 <= (k : Int) /\ (k : Int) < ((y.rs.length + 1 : Nat) : Int)
   omega
 refine ⟨hmb, fun _ _ _ _ => trivial, by show y.rs.length <= 1000000; omega, ?_, hmbA, fun h => absurd h (by decide), fun _ => ⟨hin b hb, o1, fun h => absurd h (by decide), fun _ => ⟨hin b hb, o1, hin _ (by omega), o2, fun h => absurd h (by decide), fun _ => ⟨fun _ => ftt, fun s1 => ⟨fun _ => ftt, fun s2 => ⟨?_, fun _ => ftt, fun s3 => ?_⟩⟩⟩⟩⟩⟩
 · rw [zhb]
   omega
 · rw [ybz, zal]
   rw [zkx, zal] at s2
   omega
 have s1 : bsS ⟨y.rs, host, path⟩ = true := by
   have h : (!bsS ⟨y.rs, host, path⟩) = false := s1
   simpa using h
 have s2 : 2 <= y.rs.length := by
   rw [zkx, zal] at s2
   omega
 obtain ⟨i, hi, hI⟩ := ysr s1
 have hi' : bsB (zut std y host path) = (i : Int) := hi
 have hI : zj4 ⟨y.rs, host, path⟩ y.rs.length i := hI
 have hlt := hI.lt
 have hnl := hnl (by omega)
 rw [hi'] at s3
 have hni : n ≠ i := by
   rw [yh7, zal] at s3
   omega
 have tn2 : (zaq n).toNat = n := Int.toNat_natCast _
 have hbl := yea hnl hni hI
 obtain ⟨u1, u2⟩ := yif hbl
 have hX := lsb (y := y) (n := ylh y.rs.length) (g := yp4 (fun i => rtC std (zb8 y.rs i)) (zaq n).toNat) (rs := y.rs.eraseIdx n) (by rw [List.length_eraseIdx_of_lt hnl]; rfl) (fun q j hq hj => by
   rw [tn2]
   unfold yp4
   rw [zmg (by have : q < y.rs.length - 1 := hq; exact this) hnl]
   split <;> rfl)
 have e1 : bsS (zut std ⟨y.n, y.pl, y.rs.eraseIdx n⟩ host path) = true := u1
 have e2 : bsB (zut std ⟨y.n, y.pl, y.rs.eraseIdx n⟩ host path) = ((if n < i then i - 1 else i : Nat) : Int) := u2
 have hmbD : ygo (zut std ⟨y.n, y.pl, y.rs.eraseIdx n⟩ host path) := by
   obtain ⟨m1, m2, m3, m4⟩ := hmb
   refine ⟨?_, m2, m3, fun r hr => m4 r ((List.eraseIdx_sublist ..).subset hr)⟩
   show (y.rs.eraseIdx n).length <= 1000000
   rw [List.length_eraseIdx_of_lt hnl]; omega
 simp only [hX.2, e1, e2, hi']
 have w1 : zlo .i64 (zaq n) 1 = zaq n + 1 := by
   unfold zlo
   rw [zal, zi5]; omega
 refine ⟨fun _ _ _ _ => trivial, by show y.rs.length <= 1000000; omega, fun _ _ _ _ => trivial, ?_, ⟨hX.1, hmbD⟩, fun h => ⟨fun _ => ?_, fun h => absurd h (by decide)⟩, fun h => ⟨fun _ => ?_, fun h => absurd h (by decide)⟩⟩
 · rw [w1]
   show y.rs.length <= 1000000 /\ 0 <= zaq n /\ zaq n < y.rs.length /\ zaq n + 1 = zaq n + 1
   rw [zal]
   refine ⟨by omega, by omega, by omega, rfl⟩
 · rw [zq3, zal] at h
   rw [zae, yc7, if_pos (by omega)]
   unfold yit
   rw [zi5]
   omega
 · rw [zkx, zal] at h
   rw [zae, yc7, if_neg (by omega)]
theorem law_MatchBest (y : Ls) (hy : yf0 y) (host : List UInt8) (hh : yow host) (path : List UInt8) (hp : yow path) (drop : Int) (hd : (Lit.int .u8 drop).wf = true) : za9 Tryz.prog 3 [.agg ((List.range 7).map (lsC std y)), .str host, .str path, .int .u8 drop] (.bool true) := ygn y hy host path hh hp drop hd
end Sy
end Go.Proofs.YtogpolfhcbgcbaaGreatDoor
namespace Go.Proofs.YtogpolfhcbgcbaaGreatDoor
namespace Sy
open Go
set_option linter.unusedVariables false
theorem zsd {P : Program} {w : World} {n : String} {d : DataW Unit} : ∀ {l : List (String × DataW Unit)} {ps : List MemPlace}, DataW.LaidVars P w l ps -> (n, d) ∈ l ->
   ∃ g t cs fuel p, P.globalNamed n = some g /\ (P.globals[g]?).map (·.type) = some t /\ w.var? P n = some cs /\ DataW.trod (fun _ => ()) P w 0 (fun _ => true) false fuel t cs.toList = some (d, p)
 | x :: r, ps, h, hm => by
   obtain ⟨n', d'⟩ := x
   obtain ⟨g, t, cs, fuel, p, q, h1, h2, h3, h4, h5, _⟩ := h
   rcases List.mem_cons.1 hm with e | hm
   · cases e
     exact ⟨g, t, cs, fuel, p, h1, h2, h3, h4⟩
   · exact zsd h5 hm
theorem laid_tab {P : Program} {w : World} {name : String} {k : IntKind} {zs : List Int} {l : List (String × DataW Unit)} (h : laidMet P l w) (hm : (name, Lib.tabData k zs) ∈ l) {g : Nat} {t e : TypeId} {n : Nat}
   (hg : P.globalNamed name = some g) (hty : (P.globals[g]?).map (·.type) = some t) (ht : P.underlying t = some (.array n e)) (he : P.underlying e = some (.int k)) (hce : P.cellsOf e = 1) (hct : P.cellsOf t = n) : Lib.TabIs P w name k zs := by
 obtain ⟨ps, hv, _⟩ := h
 obtain ⟨g', t', cs, fuel, p, hg', ht', hvar, hd⟩ := zsd hv hm
 obtain rfl := Option.some.inj (hg.symm.trans hg')
 obtain rfl := Option.some.inj (hty.symm.trans ht')
 unfold Lib.TabIs
 rw [hvar, <- Lib.cells_of_tab ht he hce hct hd]
theorem laid_ifc {P : Program} {w : World} {name nm : String} {d : DataW Unit} {l : List (String × DataW Unit)} (h : laidMet P l w) (hm : (name, .iface nm d) ∈ l) {g : Nat} {t : TypeId} {ms : Array (String × TypeId)}
   (hg : P.globalNamed name = some g) (hty : (P.globals[g]?).map (·.type) = some t) (ht : P.underlying t = some (.interface ms)) : ∃ te pe, w.var? P name = some #[.iface te pe] := by
 obtain ⟨ps, hv, _⟩ := h
 obtain ⟨g', t', cs, fuel, p, hg', ht', hvar, hd⟩ := zsd hv hm
 obtain rfl := Option.some.inj (hg.symm.trans hg')
 obtain rfl := Option.some.inj (hty.symm.trans ht')
 obtain ⟨f2, u, v, e, _, _⟩ := iface_of_trod ht hd
 refine ⟨u, v, ?_⟩
 rw [hvar]
 obtain ⟨l0⟩ := cs
 have e : l0 = [.iface u v] := e
 rw [e]
theorem max_is {w : World} (h : w.ShapedOpen Tryz.prog) (hm : ∀ g, Tryz.prog.globalNamed "internal/bytealg.MaxLen" = some g -> ∃ zero t, g < Tryz.prog.globals.size /\ ((begin Tryz.prog (fun _ _ => 0) default).world.heap[g]?).bind Obj.row? = some (zero, t) /\ zero.size = 1 /\ Tryz.prog.buildable t = true /\ Tryz.prog.cellTypes Tryz.prog.depth t = some [t] /\ Tryz.prog.underlying t = some (.int .i64)) : yem w := by
 intro g hg
 obtain ⟨zero, t, h1, h2, h3, h4, h5, h6⟩ := hm g hg
 exact Go.Proofs.cell_of_shapedOpen_int h h1 h2 h3 h4 h5 h6
theorem returns_and_shaped {H : Type} {enc : TypeId × Value -> H} {a : Assume} {C : Checked} {os : Os} {f : FuncId} {fn : Func} {s : ChangeSpec} {conds : List PathCond} {apart fresh handsOn again : Bool} {X : World -> Array Value -> Prop}
   (hX : ∀ (w w' : World) (args : Array Value), w.heap = w'.heap -> X w args -> X w' args)
   (own : ownKnob C.prog.godebug = none) (started : os.Started) (noInit : C.prog.inits.idxOf? f = none) (hfn : C.prog.funcs[f]? = some fn)
   (witness : ∃ (w : World) (tape : Tape) (i : Input), w.os = os /\ (w.forCall tape i).Shaped C.prog /\ i.vars = [] /\ Input.okWide C.prog (w.forCall tape i) .any w.heap.size f i /\
     ((s.pre enc C.prog fn conds apart (w.forCall tape i).memory i.args /\ X (w.forCall tape i).memory i.args) /\ sizedMet enc C.prog fn (OpenSpec.ofChange s) apart (w.forCall tape i).memory i.args) /\ a.holds C.prog (lone (Frame.enter C.prog f i.args .normal) [] (w.forCall tape i)))
   (contract : ∀ (W : World) (base : Nat) (args : Array Value) (ds gs : List (DataW H)) (before : List MemPlace),
     (∀ (j : Nat) t v, fn.params[j]? = some t -> args[j]? = some v -> Value.okWide C.prog W .any base t v) ->
     DataW.Whole enc C.prog fn.params.toList s.vars apart W args.toList ds gs before ->
     conds.all (PathCond.test C.prog ⟨fn.params.toList, ds, s.plain.varTypes C.prog, gs⟩) = true ->
     (DataW.weightsEach C.prog (fn.params.toList ++ s.plain.varTypes C.prog) (ds ++ gs)).all (· <= reachBytes) = true -> X W args -> W.ShapedOpen C.prog ->
     a.holds C.prog (lone (Frame.enter C.prog f args .normal) [] W) ->
     Calls C.prog f args W fun e W' => ∃ v, e = .returned v /\ s.post enc C.prog fn apart fresh handsOn again W args v W') :
   ReturnsInHanded a C os f .any (fun w args => (s.pre enc C.prog fn conds apart w args /\ X w args) /\ sizedMet enc C.prog fn (OpenSpec.ofChange s) apart w args) (s.post enc C.prog fn apart fresh handsOn again) := by
 refine returnsInHanded_of_calls own started noInit witness ?_
 intro w tape i _ hsh _ hok hpre hholds
 obtain ⟨_, _, _, fn', hfn', _, _, _, _, hval⟩ := hok
 have e : fn' = fn := Option.some.inj (hfn'.symm.trans hfn)
 subst e
 obtain ⟨⟨⟨ds, gs, before, hw, hc⟩, hx⟩, hz⟩ := hpre
 have hw' := DataW.Whole.of_heap (w' := w.forCall tape i) (by rfl) hw
 refine (contract (w.forCall tape i) w.heap.size i.args ds gs before hval hw' hc (hz.weights hw) (hX _ _ _ (by rfl) hx) hsh hholds).mono fun e W' ⟨v, he, hp⟩ => ?_
 subst he
 exact ChangeSpec.post_blind hp
end Sy
end Go.Proofs.YtogpolfhcbgcbaaGreatDoor
