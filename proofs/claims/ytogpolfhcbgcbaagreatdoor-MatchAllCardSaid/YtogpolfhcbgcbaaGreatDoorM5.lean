/-Chapter 7 (codec): bare, the same; the document's. Chapter 7 (codec): the same; the document's bare, same; and what stands between these and the texts behind.-/
import Derived.Test.YtogpolfhcbgcbaaGreatDoorM4
import Derived.Test.YtogpolfhcbgcbaaGreatDoorM1
import Derived.ProofKit
import Derived.OpenShut
import Derived.LaidMore
import Derived.Lay
import Derived.Stop.Joined
import Derived.Lib.LaidTab
import Derived.Handed
import Derived.Shelf.Vars
namespace Go.Proofs.YtogpolfhcbgcbaaGreatDoor
namespace Sy
open Go Go.RowKit
set_option maxRecDepth 100000
set_option linter.unusedSimpArgs false
set_option linter.unusedVariables false
theorem zjh : ∀ l : List CV, zdi l = true ↔ ∀ i, i < l.length -> zfo (zdm l i) = true
 | [] => by rw [zdi]; simp
 | v :: l => by
   rw [zdi, Bool.and_eq_true, zjh l]
   refine ⟨fun ⟨h1, h2⟩ i hi => ?_, fun h => ⟨h 0 (by simp), fun i hi => h (i + 1) (by simpa using hi)⟩⟩
   cases i with
   | zero => exact h1
   | succ i => exact h2 i (by simpa using hi)
def yiy (l : List CV) : Int := if zdi l = true then -1 else (l.findIdx fun v => !zfo v : Nat)
def yuc (l : List CV) (i : Nat) : Prop := i <= l.length /\ ∀ j, j < i -> zfo (zdm l j) = true
theorem yo6 {l : List CV} {i : Nat} (hi : i < l.length) (h : ∀ j, j < i -> zfo (zdm l j) = true) (hn : zfo (zdm l i) = false) : yiy l = (i : Int) := by
 have hb : ¬ zdi l = true := by
   rw [zjh]
   intro h2
   have := h2 i hi
   rw [hn] at this; cases this
 rw [yiy, if_neg hb]
 congr 1
 rw [List.findIdx_eq hi]
 have get : ∀ (j : Nat) (hj : j < l.length), l[j] = zdm l j := by
   intro j hj
   rw [zdm, List.getD_eq_getElem?_getD, List.getElem?_eq_getElem hj]; rfl
 refine ⟨by rw [get i hi, hn]; rfl, fun j hj => ?_⟩
 have hj' := h j hj
 rw [get j (by omega), hj']; rfl
theorem yix {l : List CV} (h : ∀ j, j < l.length -> zfo (zdm l j) = true) : yiy l = -1 := by rw [yiy, if_pos ((zjh l).2 h)]
theorem yo5 (l : List CV) : (0 <= yiy l) = (zdi l = false) := by
 unfold yiy
 split
 · rename_i h; rw [h]; simp
 · rename_i h; simp at h; rw [h]; simp
def yv6 (N : Nat) (L : za7) : zbf := (134, fun xs => match xs with
 | [.agg [.int .i64 k, .int .u64 n, .str s, x]] => some (L okL x /\ L2 L zpp N (mkV L k n s x), .bool (L not (L zfo (mkV L k n s x))))
 | _ => none)
def yv1 (N : Nat) (L : za7) : zbf := (145, fun xs => match xs with
 | [x, .fn 134 [] []] => some (L okL x /\ L2 L zs0 N (L rdL x), .int .i64 (L yiy (L rdL x)))
 | _ => none)
def yx1 (N : Nat) (L : za7) : zbf := (133, fun xs => match xs with
 | [x, .fn 134 [] []] => some (L okL x /\ L2 L zs0 N (L rdL x), .bool (L not (L zdi (L rdL x))))
 | _ => none)
def znn (N : Nat) (L : za7) : zbf := (110, fun xs => match xs with
 | [.agg [.int .i64 k, .int .u64 n, .str s, x]] => some (L okL x /\ L2 L zpp N (mkV L k n s x), .bool (L zfo (mkV L k n s x)))
 | _ => none)
theorem ywb (l : List CV) : ieq ((lenL l : Nat) : Int) 0 = l.isEmpty := by
 cases l with
 | nil => rfl
 | cons v l =>
   simp [lenL, ieq]
   omega
theorem ysz (a b : Int) : (ile a b = false) = ¬ a <= b := by simp [ile]
theorem yxd {N : Nat} (ih : zaz Tryz.prog (znn N std)) : zaz Tryz.prog (yv6 N std) := by
 intro xs p r h hp
 unfold yv6 at h
 simp only at h
 split at h
 rotate_left
 · cases h
 rename_i k n s x
 cases h
 obtain ⟨ho, hz⟩ := hp
 refine yv7 ho ?_
 rw [show mkV std k n s x = .mk k n s (rdL x) from rfl] at hz |-
 generalize rdL x = l at hz |-
 have hz : zpp N (.mk k n s l) := hz
 refine za5 (xs := fun L => [.agg [.int .i64 k, .int .u64 n, .str s, cvL L l]]) (T := tt) (S := fun L => zam [znn N L]) (lo := noA) (lb := noA) 5 (fn := Tryz.f134) rfl rfl (by kernel_rfl) (by kernel_rfl) rfl zab (za2 ⟨ih, trivial⟩) (by kernel_rfl) ?_
 intro L P' Q' hL hP hQ
 (cbv; try simp only [syT, true_and, and_true])
 (subst hL; subst hQ; simp only [L2, L3, std] at *; try simp only [syS, reduceCtorEq, Int.reduceToNat, Int.reduceAdd, Int.reduceSub] at *)
 rw [rdl, mkl]
 exact ⟨⟨okl l, hz⟩, rfl⟩
def ifA (L : za7) (l : List CV) : Nat -> St -> Option Ann := fun id s => match id with
 | 0 => some ⟨Nat, fun i => [(8, .int .i64 (L zac i))], fun i => [], [0, 1, 6, 7], [],
     fun i => L2 L yuc l i, fun i => L2 L (fun (l : List CV) (i : Nat) => l.length - i) l i⟩
 | _ => none
theorem ywm {N : Nat} (ih : zaz Tryz.prog (yv6 N std)) : zaz Tryz.prog (yv1 N std) := by
 intro xs p r h hp
 unfold yv1 at h
 simp only at h
 split at h
 rotate_left
 · cases h
 rename_i x
 cases h
 obtain ⟨ho, hz⟩ := hp
 refine yv8 ho ?_
 have hz : zs0 N (rdL x) := hz
 show za9 _ _ _ (.int .i64 (yiy (rdL x)))
 generalize rdL x = l at hz |-
 refine za5 (T := tt) (S := fun L => zam [yv6 N L]) (lo := fun L => ifA L l) (lb := noA) 5 (fn := Tryz.f145) (xs := fun L => [cvL L l, .fn 134 [] []]) rfl rfl (by kernel_rfl) (by kernel_rfl) rfl zab
   (za2 ⟨ih, trivial⟩) (by kernel_rfl) ?_
 intro L P' Q' hL hP hQ
 (cbv; try simp only [syT, true_and, and_true])
 refine ⟨⟨0, ?_⟩, fun i hi => ?_⟩
 · (cbv; try simp only [syT, true_and, and_true])
   (subst hL; subst hQ; simp only [L2, L3, std] at *; try simp only [syS, reduceCtorEq, Int.reduceToNat, Int.reduceAdd, Int.reduceSub] at *)
   exact ⟨Nat.zero_le _, fun j hj => by omega⟩
 · cbv at hi
   (cbv; try simp only [syT, true_and, and_true])
   refine ⟨fun hlt => ⟨?_, ⟨?_, ?_⟩, fun hb => ?_, fun hb => ⟨i + 1, ?_⟩⟩, fun hge => ?_⟩
   · (subst hL; subst hQ; simp only [L2, L3, std] at *; try simp only [syS, reduceCtorEq, Int.reduceToNat, Int.reduceAdd, Int.reduceSub] at *)
     omega
   · (subst hL; subst hQ; simp only [L2, L3, std] at *; try simp only [syS, reduceCtorEq, Int.reduceToNat, Int.reduceAdd, Int.reduceSub] at *)
     exact (zku _).2
   · (subst hL; subst hQ; simp only [L2, L3, std] at *; try simp only [syS, reduceCtorEq, Int.reduceToNat, Int.reduceAdd, Int.reduceSub] at *)
     rw [zdn]
     exact zv9 hz (by have : lenL l = l.length := rfl; omega)
   · (subst hL; subst hQ; simp only [L2, L3, std] at *; try simp only [syS, reduceCtorEq, Int.reduceToNat, Int.reduceAdd, Int.reduceSub] at *)
     rw [zby] at hb
     exact (yo6 (by have : lenL l = l.length := rfl; omega) hi.2 hb).symm
   · (cbv; try simp only [syT, true_and, and_true])
     (subst hL; subst hQ; simp only [L2, L3, std] at *; try simp only [syS, reduceCtorEq, Int.reduceToNat, Int.reduceAdd, Int.reduceSub] at *)
     rw [zby] at hb
     have : lenL l = l.length := rfl
     have := zn4 l
     have h1 := hz.1
     have h2 := hz.2
     refine ⟨by omega, ⟨by omega, fun j hj => ?_⟩, by omega⟩
     by_cases e : j = i
     · rw [e]; exact hb
     · exact hi.2 j (by omega)
   · (subst hL; subst hQ; simp only [L2, L3, std] at *; try simp only [syS, reduceCtorEq, Int.reduceToNat, Int.reduceAdd, Int.reduceSub] at *)
     have : lenL l = l.length := rfl
     exact (yix fun j hj => hi.2 j (by omega)).symm
theorem yx2 {N : Nat} (ih : zaz Tryz.prog (yv1 N std)) : zaz Tryz.prog (yx1 N std) := by
 intro xs p r h hp
 unfold yx1 at h
 simp only at h
 split at h
 rotate_left
 · cases h
 rename_i x
 cases h
 obtain ⟨ho, hz⟩ := hp
 refine yv8 ho ?_
 have hz : zs0 N (rdL x) := hz
 show za9 _ _ _ (.bool (not (zdi (rdL x))))
 generalize rdL x = l at hz |-
 refine za5 (xs := fun L => [cvL L l, .fn 134 [] []]) (T := tt) (S := fun L => zam [yv1 N L]) (lo := noA) (lb := noA) 5 (fn := Tryz.f133) rfl rfl (by kernel_rfl) (by kernel_rfl) rfl zab (za2 ⟨ih, trivial⟩) (by kernel_rfl) ?_
 intro L P' Q' hL hP hQ
 (cbv; try simp only [syT, true_and, and_true])
 (subst hL; subst hQ; simp only [L2, L3, std] at *; try simp only [syS, reduceCtorEq, Int.reduceToNat, Int.reduceAdd, Int.reduceSub] at *)
 rw [rdl]
 refine ⟨⟨okl l, hz⟩, ?_⟩
 have := yo5 l
 cases hb : zdi l with
 | true =>
   rw [hb] at this
   simp only [Bool.true_eq_false, eq_iff_iff, iff_false] at this
   have h : ile 0 (yiy l) = false := by rw [ysz]; exact this
   rw [h]; rfl
 | false =>
   rw [hb] at this
   simp only [eq_iff_iff, iff_true] at this
   simpa [ile] using this
theorem yfv : ∀ N, zaz Tryz.prog (znn N std) := by
 intro N
 induction N with
 | zero =>
   intro xs p r h hp
   unfold znn at h
   simp only at h
   split at h
   · rename_i k n s x
     cases h
     have h1 : sizeC (mkV std k n s x) <= 0 := hp.2.1
     have := zer (mkV std k n s x)
     omega
   · cases h
 | succ N ih =>
   intro xs p r h hp
   unfold znn at h
   simp only at h
   split at h
   rotate_left
   · cases h
   rename_i k n s x
   cases h
   obtain ⟨ho, hz⟩ := hp
   refine yv7 ho ?_
   rw [show mkV std k n s x = .mk k n s (rdL x) from rfl] at hz |-
   generalize rdL x = l at hz |-
   have hz : zpp (N + 1) (.mk k n s l) := hz
   refine za5 (T := tt) (S := fun L => zam [yx1 N L]) (lo := noA) (lb := noA) 5 (fn := Tryz.f110) (xs := fun L => [.agg [.int .i64 k, .int .u64 n, .str s, cvL L l]]) rfl rfl (by kernel_rfl) (by kernel_rfl) rfl zab
     (za2 ⟨yx2 (ywm (yxd ih)), trivial⟩) (by kernel_rfl) ?_
   intro L P' Q' hL hP hQ
   (cbv; try simp only [syT, true_and, and_true])
   (subst hL; subst hQ; simp only [L2, L3, std] at *; try simp only [syS, reduceCtorEq, Int.reduceToNat, Int.reduceAdd, Int.reduceSub] at *)
   simp only [rdl, ywb]
   rw [zcf] at hz
   rw [zfo]
   by_cases h1 : k = 1
   · simp [h1]
     exact ⟨fun a _ => a, fun a b => absurd b a⟩
   · by_cases h2 : k = 2
     · simp [h2]
       exact ⟨fun a _ => a, fun a b => absurd b a⟩
     · by_cases h3 : k = 3
       · simp [h3]
         refine ⟨fun h4 => ⟨fun h5 => ⟨⟨okl l, hz.1⟩, by simp [h4, h5]⟩, fun h5 => by simp [h5]⟩, fun h4 => by simp [h4]⟩
       · simp [h1, h2, h3]
end Sy
end Go.Proofs.YtogpolfhcbgcbaaGreatDoor
namespace Go.Proofs.YtogpolfhcbgcbaaGreatDoor
namespace Sy
open Go Go.RowKit
set_option maxRecDepth 100000
set_option linter.unusedSimpArgs false
set_option linter.unusedVariables false
end Sy
end Go.Proofs.YtogpolfhcbgcbaaGreatDoor
namespace Go.Proofs.YtogpolfhcbgcbaaGreatDoor
namespace Sy
open Go Go.RowKit
set_option maxRecDepth 100000
set_option linter.unusedSimpArgs false
set_option linter.unusedVariables false
theorem zmp : ∀ (k n : Nat), n < 128 ^ (k + 1) -> (zdg n).length <= k + 1
 | 0, n, h => by rw [zbd (by omega)]; simp
 | k + 1, n, h => by
   by_cases h1 : n < 128
   · rw [zbd h1]; simp
   · rw [zgl (by omega), List.length_cons]
     have := zmp k (n / 128) (by rw [Nat.div_lt_iff_lt_mul (by omega)]; rw [Nat.pow_succ] at h; exact h)
     omega
theorem ziy {n : Int} (h : zcr n) : (zb6 n).length <= 10 := zmp 9 n.toNat (by
 have := h.2
 have := h.1
 rw [show (128 : Nat) ^ (9 + 1) = 1180591620717411303424 from by decide]
 omega)
def cb (s : List UInt8) (i : Nat) : Nat := (s.getD i 0).toNat
def lng (s : List UInt8) : Nat -> Nat -> Nat -> Nat × Nat × Nat
 | 0, _, _ => (0, 0, 4)
 | f + 1, i, n =>
   if s.length <= i then (0, 0, 3)
   else if i = 9 /\ 1 < cb s i then (0, 0, 4)
   else if 128 <= cb s i then lng s f (i + 1) (n + cb s i % 128 * 2 ^ (7 * i))
   else if 0 < cb s i \/ i = 0 then (n + cb s i % 128 * 2 ^ (7 * i), i + 1, 0)
   else (0, 0, 4)
def ynn (s : List UInt8) : Int := (lng s 10 0 0).1
def yw9 (s : List UInt8) : Int := (lng s 10 0 0).2.1
def yuz (s : List UInt8) : Int := (lng s 10 0 0).2.2
theorem yu6 (p : List UInt8) (c : UInt8) (r : List UInt8) : cb (p ++ c :: r) p.length = c.toNat := by
 unfold cb
 rw [List.getD_eq_getElem?_getD, List.getElem?_append_right (Nat.le_refl _), Nat.sub_self]
 rfl
theorem zqg (r : List UInt8) : ∀ (f m n0 : Nat) (p : List UInt8), f + p.length = 10 -> m * 2 ^ (7 * p.length) < 2 ^ 64 -> (0 < m \/ p.length = 0) ->
   lng (p ++ (zdg m ++ r)) f p.length n0 = (n0 + m * 2 ^ (7 * p.length), p.length + (zdg m).length, 0)
 | 0, m, n0, p, hf, hm, h0 => by
   have : p.length = 10 := by omega
   rw [this] at hm h0
   have : 2 ^ (7 * 10) <= m * 2 ^ (7 * 10) := Nat.le_mul_of_pos_left _ (by omega)
   omega
 | f + 1, m, n0, p, hf, hm, h0 => by
   by_cases hb : 128 <= m
   · rw [zgl hb]
     have hc : cb (p ++ (UInt8.ofNat (m % 128 + 128) :: zdg (m / 128) ++ r)) p.length = m % 128 + 128 := by
       rw [List.cons_append, yu6]
       simp; omega
     have h9 : p.length ≠ 9 := by
       intro h
       rw [h] at hm
       have : 128 * 2 ^ (7 * 9) <= m * 2 ^ (7 * 9) := Nat.mul_le_mul_right _ hb
       omega
     rw [lng, if_neg (by simp), hc, if_neg (by omega), if_pos (by omega)]
     have e : p ++ (UInt8.ofNat (m % 128 + 128) :: zdg (m / 128) ++ r) = (p ++ [UInt8.ofNat (m % 128 + 128)]) ++ (zdg (m / 128) ++ r) := by simp
     have hl : (p ++ [UInt8.ofNat (m % 128 + 128)]).length = p.length + 1 := by simp
     have hp : 2 ^ (7 * (p.length + 1)) = 128 * 2 ^ (7 * p.length) := by rw [show 7 * (p.length + 1) = 7 + 7 * p.length by omega, Nat.pow_add]
     have hd : m / 128 * (128 * 2 ^ (7 * p.length)) + m % 128 * 2 ^ (7 * p.length) = m * 2 ^ (7 * p.length) := by
       rw [<- Nat.mul_assoc, <- Nat.add_mul]
       congr 1; omega
     have ih := zqg r f (m / 128) (n0 + (m % 128 + 128) % 128 * 2 ^ (7 * p.length)) (p ++ [UInt8.ofNat (m % 128 + 128)]) (by rw [hl]; omega) (by rw [hl, hp]; omega) (.inl (by omega))
     rw [hl] at ih
     rw [e, ih, hp, List.length_cons, show (m % 128 + 128) % 128 = m % 128 by omega]
     refine Prod.ext ?_ (Prod.ext ?_ rfl)
     · show n0 + m % 128 * 2 ^ (7 * p.length) + m / 128 * (128 * 2 ^ (7 * p.length)) = n0 + m * 2 ^ (7 * p.length)
       omega
     · show p.length + 1 + _ = p.length + (_ + 1)
       omega
   · rw [zbd (by omega)]
     have hc : cb (p ++ ([UInt8.ofNat m] ++ r)) p.length = m := by
       rw [List.singleton_append, yu6]
       simp; omega
     have h9 : ¬ (p.length = 9 /\ 1 < m) := by
       rintro ⟨h, h1⟩
       rw [h] at hm
       have : 2 * 2 ^ (7 * 9) <= m * 2 ^ (7 * 9) := Nat.mul_le_mul_right _ h1
       omega
     rw [lng, if_neg (by simp), hc, if_neg h9, if_neg (by omega), if_pos h0, Nat.mod_eq_of_lt (by omega)]
     rfl
theorem yso {m : Int} (h : zcr m) (r : List UInt8) : ynn (zb6 m ++ r) = m /\ yw9 (zb6 m ++ r) = ((zb6 m).length : Int) /\ yuz (zb6 m ++ r) = 0 := by
 have h0 := h.1
 have h1 := h.2
 have := zqg r 10 m.toNat 0 [] rfl (by simp; omega) (.inr rfl)
 simp only [List.nil_append, List.length_nil, Nat.zero_add, Nat.mul_zero, Nat.pow_zero, Nat.mul_one] at this
 unfold ynn yw9 yuz zb6
 rw [this]
 refine ⟨?_, rfl, rfl⟩
 show ((m.toNat : Nat) : Int) = m
 omega
end Sy
end Go.Proofs.YtogpolfhcbgcbaaGreatDoor
namespace Go.Proofs.YtogpolfhcbgcbaaGreatDoor
namespace Sy
open Go Go.RowKit
set_option maxRecDepth 100000
set_option linter.unusedSimpArgs false
set_option linter.unusedVariables false
mutual
def wfV : CV -> Prop
 | .mk _ n s l => zcr n /\ s.length <= 9223372036854775807 /\ zuc l
def zuc : List CV -> Prop
 | [] => True
 | v :: l => wfV v /\ zuc l
end
theorem ykf : ∀ {l : List CV} {i : Nat}, zuc l -> i < l.length -> wfV (zdm l i)
 | [], i, _, h => by simp at h
 | v :: l, 0, w, _ => by rw [zuc] at w; exact w.1
 | v :: l, i + 1, w, h => by rw [zuc] at w; exact ykf (l := l) w.2 (by simpa using h)
theorem zis (l : List CV) : ∀ i, (zh0 l i).length <= (zb1 l).length := by
 intro i
 have := zit (l.take i) (l.drop i)
 rw [List.take_append_drop] at this
 rw [this, List.length_append, zh0]; omega
theorem zan (k n : Int) (s : List UInt8) (l : List CV) : zbv (.mk k n s l) = zgf k ++ if k = 1 then zb6 n else if k = 2 then zb6 s.length ++ s else zb6 l.length ++ zb1 l := by rw [zbv]
def ya9 (v : CV) : Prop := wfV v /\ (zbv v).length <= 90000000
theorem zzz {k n : Int} {s : List UInt8} {l : List CV} : ya9 (.mk k n s l) = ((zcr n /\ s.length <= 9223372036854775807 /\ zuc l) /\ (zbv (.mk k n s l)).length <= 90000000) := by
 unfold ya9; rw [wfV]
theorem zhk {x : Int} (h : 0 <= x) (h1 : x < 18446744073709551616) : x % 18446744073709551616 = x := Int.emod_eq_of_lt h h1
theorem ziq {k n : Int} {s : List UInt8} {l : List CV} (h : wfV (.mk k n s l)) : (s.length : Int) % 18446744073709551616 = s.length := by
 rw [wfV] at h
 exact zhk (by omega) (by omega)
theorem zlx {N : Nat} {k n : Int} {s : List UInt8} {l : List CV} (h : zpp (N + 1) (.mk k n s l)) : zcr ((l.length : Nat) : Int) := by
 rw [zcf] at h
 have := zn4 l
 have h1 := h.1.1
 have h2 := h.1.2
 exact ⟨by omega, by omega⟩
theorem zir {N : Nat} {k n : Int} {s : List UInt8} {l : List CV} (h : zpp (N + 1) (.mk k n s l)) : ((lenL l : Nat) : Int) % 18446744073709551616 = ((l.length : Nat) : Int) := by
 have := zlx h
 exact zhk this.1 this.2
theorem ykg {k n : Int} {s : List UInt8} {l : List CV} (h : ya9 (.mk k n s l)) (h1 : k ≠ 1) (h2 : k ≠ 2) {i : Nat} (hi : i < l.length) : ya9 (zdm l i) := by
 rw [zzz] at h
 refine ⟨ykf h.1.2.2 hi, ?_⟩
 have h3 := h.2
 have h4 := zdw hi
 have h5 := zis l (i + 1)
 rw [h4, List.length_append] at h5
 rw [zan, if_neg h1, if_neg h2] at h3
 simp only [List.length_append] at h3
 omega
def zo6 (b : List UInt8) (k : Int) (l : List CV) (i : Nat) : List UInt8 := b ++ zgf k ++ zb6 l.length ++ zh0 l i
def putA (L : za7) (b : List UInt8) (k : Int) (l : List CV) : Nat -> St -> Option Ann := fun id s => match id with
 | 1 => some ⟨Nat, fun i => [(23, .int .i64 (L zac i))], fun i => [(500000, .box 137 [.ref 500000 0, .sl 901 1 0 (L lenN (L (L3 L zo6 b k l) i))]), (901, .row 5 1 (L lenN (L (L3 L zo6 b k l) i)) (fun j _ => .int .u8 (L2 L za8 (L (L3 L zo6 b k l) i) j)))], [0, 21, 22], [],
     fun i => L2 L (fun (l : List CV) i => i <= l.length) l i, fun i => L2 L (fun (l : List CV) (i : Nat) => l.length - i) l i⟩
 | _ => none
def zq2 (N : Nat) (L : za7) : znq := (112, fun raw ob => match raw with
 | [.ref id 0, .agg [.int .i64 k, .int .u64 n, .str s, x]] => match yft L ob id with
   | some none => some ⟨[.ref 500000 0, .agg [.int .i64 k, .int .u64 n, .str s, x]], yqx, L okL x /\ L2 L zpp N (mkV L k n s x) /\ L ya9 (mkV L k n s x), .tup [], zu3 L (L zbv (mkV L k n s x))⟩
   | some (some l) => some ⟨[.ref 500000 0, .agg [.int .i64 k, .int .u64 n, .str s, x]], bld L l, L okL x /\ L2 L zpp N (mkV L k n s x) /\ L ya9 (mkV L k n s x) /\ L2 L zfa l (L zbv (mkV L k n s x)), .tup [], zu3 L (L2 L zad l (L zbv (mkV L k n s x)))⟩
   | none => none
 | _ => none)
theorem yrq {b : List UInt8} {k n : Int} {s : List UInt8} {l : List CV} (h : zfa b (zbv (.mk k n s l))) : zfa b (zc8 (k % 256)) := by
 rw [zan] at h
 unfold zfa at h |-
 have : (zgf k).length = 1 := rfl
 have : (zc8 (k % 256)).length = 1 := rfl
 rw [List.length_append] at h
 omega
theorem zun {b q : List UInt8} {k : Int} (h : zfa b (zgf k ++ q)) : zfa (zad b (zc8 (k % 256))) q := by
 unfold zfa zad at *
 have : (zgf k).length = 1 := rfl
 have : (zc8 (k % 256)).length = 1 := rfl
 rw [List.length_append] at h |-
 omega
theorem ykp {b q r : List UInt8} {k : Int} (h : zfa b (zgf k ++ (q ++ r))) : zfa (zad b (zc8 (k % 256))) q := by
 unfold zfa zad at *
 have : (zgf k).length = 1 := rfl
 have : (zc8 (k % 256)).length = 1 := rfl
 rw [List.length_append, List.length_append] at h
 rw [List.length_append]
 omega
theorem zul {x y : List UInt8} (h : x = y) : (lenN x = lenN y /\ ∀ i j : Nat, i < lenN y -> j < 1 -> AV.int .u8 (za8 x i) = AV.int .u8 (za8 y i)) /\ lenN x = lenN y := by
 subst h; exact ⟨⟨rfl, fun _ _ _ _ => rfl⟩, rfl⟩
theorem ykk {b q t : List UInt8} {k : Int} (h : t = zgf k ++ q) : (lenN (zad (zad b (zc8 (k % 256))) q) = lenN (zad b t) /\ ∀ i j : Nat, i < lenN (zad b t) -> j < 1 -> AV.int .u8 (za8 (zad (zad b (zc8 (k % 256))) q) i) = AV.int .u8 (za8 (zad b t) i)) /\ lenN (zad (zad b (zc8 (k % 256))) q) = lenN (zad b t) :=
 zul (by rw [h]; unfold zad; rw [List.append_assoc]; rfl)
theorem ykl {q t : List UInt8} {k : Int} (h : t = zgf k ++ q) : (lenN (zad (zc8 (k % 256)) q) = lenN t /\ ∀ i j : Nat, i < lenN t -> j < 1 -> AV.int .u8 (za8 (zad (zc8 (k % 256)) q) i) = AV.int .u8 (za8 t i)) /\ lenN (zad (zc8 (k % 256)) q) = lenN t :=
 zul (by rw [h]; rfl)
theorem ymw {N : Nat} (ih : zfz Tryz.prog (zq2 N std)) (b : List UInt8) (k n : Int) (s : List UInt8) (l : List CV) (hz : zpp (N + 1) (.mk k n s l)) (hw : ya9 (.mk k n s l)) (hb : zfa b (zbv (.mk k n s l))) :
   zbg Tryz.prog 112 [.ref 500000 0, .agg [.int .i64 k, .int .u64 n, .str s, cvL std l]] (bld std b) (.tup []) (zu3 std (zad b (zbv (.mk k n s l)))) := by
 refine zb9 (T := tt) (S := fun L => zc3 [zko L] [yun L, yum L, zq2 N L]) (lo := fun L => putA L b k l) (lb := noA) 5 (fn := Tryz.f112) (xs := fun L => [.ref 500000 0, .agg [.int .i64 k, .int .u64 n, .str s, cvL L l]]) (rts := fun _ => []) (O := fun L => bld L b) (O1 := fun L => zu3 L (L2 L zad b (L zbv (.mk k n s l))))
   rfl rfl (by kernel_rfl) (by kernel_rfl) (by kernel_rfl) zab (zau ⟨zix, trivial⟩ ⟨ya0, zzu, ih, trivial⟩) (by kernel_rfl) ?_
 intro L P' Q' hL hP hQ
 have hB : ∀ b : List UInt8, L (L zbc (L lenN b)) (fun i => (AV.int .u8 (L2 L za8 b i)).toI) = b := by subst hL; exact zgx
 (cbv; try simp only [syT, true_and, and_true])
 simp only [hB]
 refine ⟨⟨trivial, fun _ _ _ _ => trivial⟩, trivial, ⟨?_, ?_⟩, fun h1 => ⟨?_, ⟨trivial, fun _ _ _ _ => trivial⟩, trivial, ?_, ?_⟩, fun h1 => ⟨fun h2 => ⟨?_, ?_, ⟨trivial, fun _ _ _ _ => trivial⟩, trivial, ?_, ?_⟩, fun h2 => ⟨?_, ⟨trivial, fun _ _ _ _ => trivial⟩, trivial, ?_, ⟨0, ?_⟩, fun i hi => ?_⟩⟩⟩
 · (subst hL; subst hQ; simp only [L2, L3, std] at *; try simp only [syS, reduceCtorEq, Int.reduceToNat, Int.reduceAdd, Int.reduceSub] at *)
   exact ⟨Int.emod_nonneg _ (by omega), Int.emod_lt_of_pos _ (by omega)⟩
 · (subst hL; subst hQ; simp only [L2, L3, std] at *; try simp only [syS, reduceCtorEq, Int.reduceToNat, Int.reduceAdd, Int.reduceSub] at *)
   exact yrq hb
 · (subst hL; subst hQ; simp only [L2, L3, std] at *; try simp only [syS, reduceCtorEq, Int.reduceToNat, Int.reduceAdd, Int.reduceSub] at *)
   rw [zzz] at hw
   exact hw.1.1
 · (subst hL; subst hQ; simp only [L2, L3, std] at *; try simp only [syS, reduceCtorEq, Int.reduceToNat, Int.reduceAdd, Int.reduceSub] at *)
   rw [zan, if_pos h1] at hb
   exact zun hb
 · (subst hL; subst hQ; simp only [L2, L3, std] at *; try simp only [syS, reduceCtorEq, Int.reduceToNat, Int.reduceAdd, Int.reduceSub] at *)
   exact ykk (by rw [zan, if_pos h1])
 · (subst hL; subst hQ; simp only [L2, L3, std] at *; try simp only [syS, reduceCtorEq, Int.reduceToNat, Int.reduceAdd, Int.reduceSub] at *)
   rw [zzz] at hw
   rw [zhk (by omega) (by omega)]
   exact ⟨by omega, by omega⟩
 · (subst hL; subst hQ; simp only [L2, L3, std] at *; try simp only [syS, reduceCtorEq, Int.reduceToNat, Int.reduceAdd, Int.reduceSub] at *)
   rw [ziq hw.1]
   have h3 := hw.2
   rw [zan, if_neg h1, if_pos h2] at h3
   simp at h3 |-
   omega
 · (subst hL; subst hQ; simp only [L2, L3, std] at *; try simp only [syS, reduceCtorEq, Int.reduceToNat, Int.reduceAdd, Int.reduceSub] at *)
   rw [ziq hw.1]
   rw [zan, if_neg h1, if_pos h2] at hb
   exact zun hb
 · (subst hL; subst hQ; simp only [L2, L3, std] at *; try simp only [syS, reduceCtorEq, Int.reduceToNat, Int.reduceAdd, Int.reduceSub] at *)
   rw [ziq hw.1]
   exact ykk (by rw [zan, if_neg h1, if_pos h2])
 · (subst hL; subst hQ; simp only [L2, L3, std] at *; try simp only [syS, reduceCtorEq, Int.reduceToNat, Int.reduceAdd, Int.reduceSub] at *)
   rw [zir hz]
   exact zlx hz
 · (subst hL; subst hQ; simp only [L2, L3, std] at *; try simp only [syS, reduceCtorEq, Int.reduceToNat, Int.reduceAdd, Int.reduceSub] at *)
   rw [zir hz]
   rw [zan, if_neg h1, if_neg h2] at hb
   exact ykp hb
 · (cbv; try simp only [syT, true_and, and_true])
   (subst hL; subst hQ; simp only [L2, L3, std] at *; try simp only [syS, reduceCtorEq, Int.reduceToNat, Int.reduceAdd, Int.reduceSub] at *)
   rw [zir hz]
   have e : zad (zad b (zc8 (k % 256))) (zb6 ((l.length : Nat) : Int)) = zo6 b k l 0 := by
     rw [zo6, zh0, List.take_zero, zb1, List.append_nil]; rfl
   rw [e]
   exact ⟨⟨rfl, fun _ _ _ _ => rfl⟩, rfl, Nat.zero_le _⟩
 · cbv at hi
   (cbv; try simp only [syT, true_and, and_true])
   simp only [hB]
   refine ⟨fun hlt => ⟨?_, ⟨trivial, fun _ _ _ _ => trivial⟩, trivial, fun _ _ _ _ => trivial, ⟨?_, ?_, ?_, ?_⟩, ⟨i + 1, ?_⟩⟩, fun hge => ?_⟩
   · (subst hL; subst hQ; simp only [L2, L3, std] at *; try simp only [syS, reduceCtorEq, Int.reduceToNat, Int.reduceAdd, Int.reduceSub] at *)
     omega
   · (subst hL; subst hQ; simp only [L2, L3, std] at *; try simp only [syS, reduceCtorEq, Int.reduceToNat, Int.reduceAdd, Int.reduceSub] at *)
     exact (zku _).2
   · (subst hL; subst hQ; simp only [L2, L3, std] at *; try simp only [syS, reduceCtorEq, Int.reduceToNat, Int.reduceAdd, Int.reduceSub] at *)
     rw [zdn]
     rw [zcf] at hz
     exact zv9 hz.1 (by have : lenL l = l.length := rfl; omega)
   · (subst hL; subst hQ; simp only [L2, L3, std] at *; try simp only [syS, reduceCtorEq, Int.reduceToNat, Int.reduceAdd, Int.reduceSub] at *)
     rw [zby]
     exact ykg hw (by omega) (by omega) (by have : lenL l = l.length := rfl; omega)
   · (subst hL; subst hQ; simp only [L2, L3, std] at *; try simp only [syS, reduceCtorEq, Int.reduceToNat, Int.reduceAdd, Int.reduceSub] at *)
     rw [zby]
     have h4 := zdw (l := l) (i := i) (by have : lenL l = l.length := rfl; omega)
     have h5 := zis l (i + 1)
     rw [h4, List.length_append] at h5
     rw [zan, if_neg h1, if_neg h2] at hb
     unfold zfa at hb |-
     simp only [List.length_append, zo6] at hb |-
     omega
   · (cbv; try simp only [syT, true_and, and_true])
     (subst hL; subst hQ; simp only [L2, L3, std] at *; try simp only [syS, reduceCtorEq, Int.reduceToNat, Int.reduceAdd, Int.reduceSub] at *)
     have : lenL l = l.length := rfl
     have := zn4 l
     rw [zcf] at hz
     have h4 := hz.1.1
     have h5 := hz.1.2
     rw [zby]
     have e : zad (zo6 b k l i) (zbv (zdm l i)) = zo6 b k l (i + 1) := by
       rw [zo6, zo6, zdw (by omega)]; unfold zad; simp only [List.append_assoc]
     rw [e]
     exact ⟨⟨rfl, fun _ _ _ _ => rfl⟩, rfl, by omega, by omega, by omega⟩
   · (subst hL; subst hQ; simp only [L2, L3, std] at *; try simp only [syS, reduceCtorEq, Int.reduceToNat, Int.reduceAdd, Int.reduceSub] at *)
     have : lenL l = l.length := rfl
     have hil : i = l.length := by omega
     exact zul (by rw [zan, if_neg h1, if_neg h2, zo6, hil, zh0, List.take_length]; unfold zad; simp only [List.append_assoc])
theorem ymx {N : Nat} (ih : zfz Tryz.prog (zq2 N std)) (k n : Int) (s : List UInt8) (l : List CV) (hz : zpp (N + 1) (.mk k n s l)) (hw : ya9 (.mk k n s l)) :
   zbg Tryz.prog 112 [.ref 500000 0, .agg [.int .i64 k, .int .u64 n, .str s, cvL std l]] yqx (.tup []) (zu3 std (zbv (.mk k n s l))) := by
 refine zb9 (T := tt) (S := fun L => zc3 [zko L] [yun L, yum L, zq2 N L]) (lo := fun L => putA L [] k l) (lb := noA) 5 (fn := Tryz.f112) (xs := fun L => [.ref 500000 0, .agg [.int .i64 k, .int .u64 n, .str s, cvL L l]]) (rts := fun _ => []) (O := fun L => yqx) (O1 := fun L => zu3 L (L zbv (.mk k n s l)))
   rfl rfl (by kernel_rfl) (by kernel_rfl) (by kernel_rfl) zab (zau ⟨zix, trivial⟩ ⟨ya0, zzu, ih, trivial⟩) (by kernel_rfl) ?_
 intro L P' Q' hL hP hQ
 have hb : zfa [] (zbv (.mk k n s l)) := by have := hw.2; unfold zfa; simp; omega
 have hB : ∀ b : List UInt8, L (L zbc (L lenN b)) (fun i => (AV.int .u8 (L2 L za8 b i)).toI) = b := by subst hL; exact zgx
 (cbv; try simp only [syT, true_and, and_true])
 simp only [hB]
 refine ⟨?_, fun h1 => ⟨?_, ⟨trivial, fun _ _ _ _ => trivial⟩, trivial, ?_, ?_⟩, fun h1 => ⟨fun h2 => ⟨?_, ?_, ⟨trivial, fun _ _ _ _ => trivial⟩, trivial, ?_, ?_⟩, fun h2 => ⟨?_, ⟨trivial, fun _ _ _ _ => trivial⟩, trivial, ?_, ⟨0, ?_⟩, fun i hi => ?_⟩⟩⟩
 · (subst hL; subst hQ; simp only [L2, L3, std] at *; try simp only [syS, reduceCtorEq, Int.reduceToNat, Int.reduceAdd, Int.reduceSub] at *)
   exact ⟨Int.emod_nonneg _ (by omega), Int.emod_lt_of_pos _ (by omega)⟩
 · (subst hL; subst hQ; simp only [L2, L3, std] at *; try simp only [syS, reduceCtorEq, Int.reduceToNat, Int.reduceAdd, Int.reduceSub] at *)
   rw [zzz] at hw
   exact hw.1.1
 · (subst hL; subst hQ; simp only [L2, L3, std] at *; try simp only [syS, reduceCtorEq, Int.reduceToNat, Int.reduceAdd, Int.reduceSub] at *)
   rw [zan, if_pos h1] at hb
   exact zun hb
 · (subst hL; subst hQ; simp only [L2, L3, std] at *; try simp only [syS, reduceCtorEq, Int.reduceToNat, Int.reduceAdd, Int.reduceSub] at *)
   exact ykl (by rw [zan, if_pos h1])
 · (subst hL; subst hQ; simp only [L2, L3, std] at *; try simp only [syS, reduceCtorEq, Int.reduceToNat, Int.reduceAdd, Int.reduceSub] at *)
   rw [zzz] at hw
   rw [zhk (by omega) (by omega)]
   exact ⟨by omega, by omega⟩
 · (subst hL; subst hQ; simp only [L2, L3, std] at *; try simp only [syS, reduceCtorEq, Int.reduceToNat, Int.reduceAdd, Int.reduceSub] at *)
   rw [ziq hw.1]
   have h3 := hw.2
   rw [zan, if_neg h1, if_pos h2] at h3
   simp at h3 |-
   omega
 · (subst hL; subst hQ; simp only [L2, L3, std] at *; try simp only [syS, reduceCtorEq, Int.reduceToNat, Int.reduceAdd, Int.reduceSub] at *)
   rw [ziq hw.1]
   rw [zan, if_neg h1, if_pos h2] at hb
   exact zun hb
 · (subst hL; subst hQ; simp only [L2, L3, std] at *; try simp only [syS, reduceCtorEq, Int.reduceToNat, Int.reduceAdd, Int.reduceSub] at *)
   rw [ziq hw.1]
   exact ykl (by rw [zan, if_neg h1, if_pos h2])
 · (subst hL; subst hQ; simp only [L2, L3, std] at *; try simp only [syS, reduceCtorEq, Int.reduceToNat, Int.reduceAdd, Int.reduceSub] at *)
   rw [zir hz]
   exact zlx hz
 · (subst hL; subst hQ; simp only [L2, L3, std] at *; try simp only [syS, reduceCtorEq, Int.reduceToNat, Int.reduceAdd, Int.reduceSub] at *)
   rw [zir hz]
   rw [zan, if_neg h1, if_neg h2] at hb
   exact ykp hb
 · (cbv; try simp only [syT, true_and, and_true])
   (subst hL; subst hQ; simp only [L2, L3, std] at *; try simp only [syS, reduceCtorEq, Int.reduceToNat, Int.reduceAdd, Int.reduceSub] at *)
   rw [zir hz]
   have e : zad (zc8 (k % 256)) (zb6 ((l.length : Nat) : Int)) = zo6 [] k l 0 := by
     rw [zo6, zh0, List.take_zero, zb1, List.append_nil]; rfl
   rw [e]
   exact ⟨⟨rfl, fun _ _ _ _ => rfl⟩, rfl, Nat.zero_le _⟩
 · cbv at hi
   (cbv; try simp only [syT, true_and, and_true])
   simp only [hB]
   refine ⟨fun hlt => ⟨?_, ⟨trivial, fun _ _ _ _ => trivial⟩, trivial, fun _ _ _ _ => trivial, ⟨?_, ?_, ?_, ?_⟩, ⟨i + 1, ?_⟩⟩, fun hge => ?_⟩
   · (subst hL; subst hQ; simp only [L2, L3, std] at *; try simp only [syS, reduceCtorEq, Int.reduceToNat, Int.reduceAdd, Int.reduceSub] at *)
     omega
   · (subst hL; subst hQ; simp only [L2, L3, std] at *; try simp only [syS, reduceCtorEq, Int.reduceToNat, Int.reduceAdd, Int.reduceSub] at *)
     exact (zku _).2
   · (subst hL; subst hQ; simp only [L2, L3, std] at *; try simp only [syS, reduceCtorEq, Int.reduceToNat, Int.reduceAdd, Int.reduceSub] at *)
     rw [zdn]
     rw [zcf] at hz
     exact zv9 hz.1 (by have : lenL l = l.length := rfl; omega)
   · (subst hL; subst hQ; simp only [L2, L3, std] at *; try simp only [syS, reduceCtorEq, Int.reduceToNat, Int.reduceAdd, Int.reduceSub] at *)
     rw [zby]
     exact ykg hw (by omega) (by omega) (by have : lenL l = l.length := rfl; omega)
   · (subst hL; subst hQ; simp only [L2, L3, std] at *; try simp only [syS, reduceCtorEq, Int.reduceToNat, Int.reduceAdd, Int.reduceSub] at *)
     rw [zby]
     have h4 := zdw (l := l) (i := i) (by have : lenL l = l.length := rfl; omega)
     have h5 := zis l (i + 1)
     rw [h4, List.length_append] at h5
     rw [zan, if_neg h1, if_neg h2] at hb
     unfold zfa at hb |-
     simp only [List.length_append, zo6] at hb |-
     omega
   · (cbv; try simp only [syT, true_and, and_true])
     (subst hL; subst hQ; simp only [L2, L3, std] at *; try simp only [syS, reduceCtorEq, Int.reduceToNat, Int.reduceAdd, Int.reduceSub] at *)
     have : lenL l = l.length := rfl
     have := zn4 l
     rw [zcf] at hz
     have h4 := hz.1.1
     have h5 := hz.1.2
     rw [zby]
     have e : zad (zo6 [] k l i) (zbv (zdm l i)) = zo6 [] k l (i + 1) := by
       rw [zo6, zo6, zdw (by omega)]; unfold zad; simp only [List.append_assoc]
     rw [e]
     exact ⟨⟨rfl, fun _ _ _ _ => rfl⟩, rfl, by omega, by omega, by omega⟩
   · (subst hL; subst hQ; simp only [L2, L3, std] at *; try simp only [syS, reduceCtorEq, Int.reduceToNat, Int.reduceAdd, Int.reduceSub] at *)
     have : lenL l = l.length := rfl
     have hil : i = l.length := by omega
     exact zul (by rw [zan, if_neg h1, if_neg h2, zo6, hil, zh0, List.take_length, List.nil_append, List.append_assoc])
theorem ycy {P : Program} {f : FuncId} {xs ys : List AV} {O O1 : List (Nat × Ob)} {r : AV} (e : ∀ h D μ vs, RL h D μ xs vs -> RL h D μ ys vs) (hm : zbg P f ys O r O1) : zbg P f xs O r O1 :=
 fun D w μ vs hD hx => hm D w μ vs hD (e _ _ _ _ hx)
theorem yex : ∀ N, zfz Tryz.prog (zq2 N std) := by
 intro N
 induction N with
 | zero =>
   intro raw ob T hT hp
   unfold zq2 at hT
   simp only at hT
   split at hT
   · rename_i k n s x
     split at hT <;> cases hT
     · have h1 : sizeC (mkV std k n s x) <= 0 := hp.2.1.1
       have := zer (mkV std k n s x)
       omega
     · have h1 : sizeC (mkV std k n s x) <= 0 := hp.2.1.1
       have := zer (mkV std k n s x)
       omega
   · cases hT
 | succ N ih =>
   intro raw ob T hT hp
   unfold zq2 at hT
   simp only at hT
   split at hT
   rotate_left
   · cases hT
   rename_i k n s x
   split at hT <;> cases hT
   · refine ycy (fun h D μ vs hr => rl_2 (fun v => ylw hp.1) hr) ?_
     exact ymx ih k n s (rdL x) hp.2.1 hp.2.2
   · refine ycy (fun h D μ vs hr => rl_2 (fun v => ylw hp.1) hr) ?_
     exact ymw ih _ k n s (rdL x) hp.2.1 hp.2.2.1 hp.2.2.2
end Sy
end Go.Proofs.YtogpolfhcbgcbaaGreatDoor
namespace Go.Proofs.YtogpolfhcbgcbaaGreatDoor
namespace Sy
open Go Go.RowKit
set_option maxRecDepth 100000
set_option linter.unusedSimpArgs false
set_option linter.unusedVariables false
theorem zua {P : Program} {f : FuncId} {sz n : Nat} {get : Nat -> Nat -> AV} {r : AV} (h0 : n = 0 -> za9 P f [.nils] r) (h1 : n = 0 -> za9 P f [.emp] r) (h2 : 0 < n -> za9 P f [.lst sz n get] r) : za9 P f [.lst sz n get] r := by
 by_cases e : n = 0
 · subst e
   intro D w vs hD hx
   obtain ⟨v, hv⟩ : ∃ v, vs.toList = [v] := List.length_eq_one_iff.1 (by simpa using hx.1.symm)
   have : vs = #[v] := by rw [<- Array.toArray_toList (xs := vs), hv]
   subst this
   have hr := hx.2 0 _ _ rfl rfl
   have one : ∀ y, R w.heap D zas y v -> RL w.heap D zas [y] #[v] := fun y r => ⟨rfl, fun i x u hx hu => by
     match i with
     | 0 => cases hx; cases hu; exact r
     | i + 1 => simp at hx⟩
   cases hr with
   | lst0 _ _ a cap hn =>
     cases a with
     | none =>
       obtain rfl := hn rfl
       exact h0 rfl D w _ hD (one _ .nils)
     | some a => exact h1 rfl D w _ hD (one _ (.emp a cap))
   | lst _ _ _ b o cap vs' hD' hc hv' h1' hr' => exact h1 rfl D w _ hD (one _ (.emp _ cap))
 · exact h2 (by omega)
def zgy (n : Int) : CV := .mk 1 n [] []
def zjx (s : List UInt8) : CV := .mk 2 0 s []
def zdq (l : List CV) : CV := .mk 3 0 [] l
def zy5 (L : za7) : zbf := (85, fun xs => match xs with | [.int .u64 n] => some (True, cvA L (L zgy n)) | _ => none)
def zwx (L : za7) : zbf := (116, fun xs => match xs with | [.str s] => some (True, cvA L (L zjx s)) | _ => none)
theorem zjz : zaz Tryz.prog (zy5 std) := by
 intro xs p r h hp
 unfold zy5 at h
 simp only at h
 split at h
 rotate_left
 · cases h
 rename_i n
 cases h
 refine za6 (T := tt) (S := noS) (lo := noA) (lb := noA) 5 (fn := Tryz.f85) rfl rfl (by kernel_rfl) (by kernel_rfl) rfl zab (zc4 _) (by kernel_rfl) ?_
 (intro L P1 Q1 hL hP hQ; cbv; subst hL; simp only [L2, L3, std, syT]; subst hQ)
 show zfs (.agg [.int .i64 1, .int .u64 n, .str [], .lst 4 0 (zk9 (zgy n))]) _
 simp [zgd, zd7, zds, zjd, zdt]
theorem zjw : zaz Tryz.prog (zwx std) := by
 intro xs p r h hp
 unfold zwx at h
 simp only at h
 split at h
 rotate_left
 · cases h
 rename_i n
 cases h
 refine za6 (T := tt) (S := noS) (lo := noA) (lb := noA) 5 (fn := Tryz.f116) rfl rfl (by kernel_rfl) (by kernel_rfl) rfl zab (zc4 _) (by kernel_rfl) ?_
 (intro L P1 Q1 hL hP hQ; cbv; subst hL; simp only [L2, L3, std, syT]; subst hQ)
 show zfs (.agg [.int .i64 2, .int .u64 0, .str n, .lst 4 0 (zk9 (zjx n))]) _
 simp [zgd, zd7, zds, zjd, zdt]
def yd7 (l : List CV) : Prop := l.length <= 1000000
def ztt (L : za7) : zbf := (115, fun xs => match xs with
 | [x] => some (L okL x /\ L yd7 (L rdL x), .lst 4 (L lenL (L rdL x)) (L zid (L rdL x)))
 | _ => none)
theorem zz2 : zaz Tryz.prog (ztt std) := by
 intro xs p r h hp
 unfold ztt at h
 simp only at h
 split at h
 rotate_left
 · cases h
 rename_i x
 cases h
 obtain ⟨ho, hz⟩ := hp
 refine yv8 ho ?_
 have hz : yd7 (rdL x) := hz
 show za9 _ _ [cvL std (rdL x)] (.lst 4 (lenL (rdL x)) (zid (rdL x)))
 generalize rdL x = l at hz |-
 refine zua (fun h => ?_) (fun h => ?_) (fun h => ?_)
 · refine za6 (T := tt) (S := noS) (lo := noA) (lb := noA) 5 (fn := Tryz.f115) rfl rfl (by kernel_rfl) (by kernel_rfl) rfl zab (zc4 _) (by kernel_rfl) ?_
   intro L P' Q' hL hP hQ
   (cbv; try simp only [syT, true_and, and_true])
   (subst hL; subst hQ; simp only [L2, L3, std] at *; try simp only [syS, reduceCtorEq, Int.reduceToNat, Int.reduceAdd, Int.reduceSub] at *)
   exact h.symm
 · refine za6 (T := tt) (S := noS) (lo := noA) (lb := noA) 5 (fn := Tryz.f115) rfl rfl (by kernel_rfl) (by kernel_rfl) rfl zab (zc4 _) (by kernel_rfl) ?_
   intro L P' Q' hL hP hQ
   (cbv; try simp only [syT, true_and, and_true])
   (subst hL; subst hQ; simp only [L2, L3, std] at *; try simp only [syS, reduceCtorEq, Int.reduceToNat, Int.reduceAdd, Int.reduceSub] at *)
   exact ⟨by omega, h.symm, fun i j hi => by omega⟩
 · refine za5 (T := tt) (S := noS) (lo := fun _ => noA std) (lb := noA) 5 (fn := Tryz.f115) (xs := fun L => [cvL L l]) rfl rfl (by kernel_rfl) (by kernel_rfl) rfl zab (zc4 _) (by kernel_rfl) ?_
   intro L P' Q' hL hP hQ
   (cbv; try simp only [syT, true_and, and_true])
   (subst hL; subst hQ; simp only [L2, L3, std] at *; try simp only [syS, reduceCtorEq, Int.reduceToNat, Int.reduceAdd, Int.reduceSub] at *)
   have h1 : lenL l <= 1000000 := hz
   exact ⟨zu2 h, by omega, fun i j hi hj => by rw [zts _ _ hj, zbr _ _ _ hi]⟩
def zfr (L : za7) : zbf := (84, fun xs => match xs with
 | [x] => some (L okL x /\ L yd7 (L rdL x), cvA L (L zdq (L rdL x)))
 | _ => none)
theorem zca : zaz Tryz.prog (zfr std) := by
 intro xs p r h hp
 unfold zfr at h
 simp only at h
 split at h
 rotate_left
 · cases h
 rename_i x
 cases h
 obtain ⟨ho, hz⟩ := hp
 refine yv8 ho ?_
 have hz : yd7 (rdL x) := hz
 show za9 _ _ [cvL std (rdL x)] (cvA std (zdq (rdL x)))
 generalize rdL x = l at hz |-
 refine za5 (T := tt) (S := fun L => zam [ztt L]) (lo := fun _ => noA std) (lb := noA) 5 (fn := Tryz.f84) (xs := fun L => [cvL L l]) rfl rfl (by kernel_rfl) (by kernel_rfl) rfl zab (za2 ⟨zz2, trivial⟩) (by kernel_rfl) ?_
 intro L P' Q' hL hP hQ
 (cbv; try simp only [syT, true_and, and_true])
 (subst hL; subst hQ; simp only [L2, L3, std] at *; try simp only [syS, reduceCtorEq, Int.reduceToNat, Int.reduceAdd, Int.reduceSub] at *)
 rw [rdl]
 refine ⟨⟨okl l, hz⟩, ?_⟩
 show zfs (.agg [.int .i64 3, .int .u64 0, .str [], .lst 4 (lenL l) (zid l)]) _
 simp [zgd, zd7, zds, zje, zdt]
def zsh (v : CV) : Int := if zfo v = true then (if zdf v > 6 then 8 else if (zbv v).length > 8192 then 5 else 0) else 10
def zxv (v : CV) : List UInt8 := if zsh v = 0 then zbv v else []
def zwi (N : Nat) (L : za7) : zbf := (83, fun xs => match xs with
 | [.agg [.int .i64 k, .int .u64 n, .str s, x]] => some (L okL x /\ L2 L zpp N (mkV L k n s x) /\ L ya9 (mkV L k n s x), .tup [.str (L zxv (mkV L k n s x)), .int .i64 (L zsh (mkV L k n s x))])
 | _ => none)
theorem znj (N : Nat) : zaz Tryz.prog (zwi N std) := by
 intro xs p r h hp
 unfold zwi at h
 simp only at h
 split at h
 rotate_left
 · cases h
 rename_i k n s x
 cases h
 obtain ⟨ho, hz, hw⟩ := hp
 refine yv7 ho ?_
 rw [show mkV std k n s x = .mk k n s (rdL x) from rfl] at hz hw |-
 generalize rdL x = l at hz hw |-
 have hz : zpp N (.mk k n s l) := hz
 have hw : ya9 (.mk k n s l) := hw
 refine za5 (T := tt) (S := fun L => zc3 [znn N L, zr9 N L] [zq2 N L, yxc L, yxa L]) (lo := fun _ => noA std) (lb := noA) 5 (fn := Tryz.f83) (xs := fun L => [.agg [.int .i64 k, .int .u64 n, .str s, cvL L l]]) rfl rfl (by kernel_rfl) (by kernel_rfl) rfl zab
   (zau ⟨yfv N, yen N, trivial⟩ ⟨yex N, yq6, yq4, trivial⟩) (by kernel_rfl) ?_
 intro L P' Q' hL hP hQ
 have hB : ∀ b : List UInt8, L (L zbc (L lenN b)) (fun i => (AV.int .u8 (L2 L za8 b i)).toI) = b := by subst hL; exact zgx
 (cbv; try simp only [syT, true_and, and_true])
 simp only [hB]
 (subst hL; subst hQ; simp only [L2, L3, std] at *; try simp only [syS, reduceCtorEq, Int.reduceToNat, Int.reduceAdd, Int.reduceSub] at *)
 simp only [rdl, mkl]
 refine ⟨⟨okl l, hz⟩, fun h1 => ?_, fun h1 => ⟨⟨okl l, hz⟩, fun h2 => ?_, fun h2 => ⟨⟨okl l, hz, hw⟩, fun h3 => ?_, fun h3 => ⟨⟨?_, hw.2⟩, ?_⟩⟩⟩⟩
 · simp [zxv, zsh, h1]
 · simp [zxv, zsh, h1, h2]
 · have h4 : ¬ 6 < zdf (.mk k n s l) := by omega
   have h5 : 8192 < (zbv (.mk k n s l)).length := by omega
   simp [zxv, zsh, h1, h4, h5]
 · rw [zan]; simp [zgf]
 · have h4 : ¬ 6 < zdf (.mk k n s l) := by omega
   have h5 : ¬ 8192 < (zbv (.mk k n s l)).length := by omega
   simp [zxv, zsh, h1, h4, h5]
theorem one1 (v : CV) : rdL (.lst 4 1 fun i j => zbo .dead [.int .i64 v.kd, .int .u64 v.nn, .str v.tx, .lst 4 (zm8 v) (zk9 v)] (i * 4 + j)) = [v] := by
 show [CV.mk v.kd v.nn v.tx (rdL (.lst 4 (zm8 v) (zk9 v)))] = [v]
 rw [zdn]
theorem yn7 (v : CV) : okL (.lst 4 1 fun i j => zbo .dead [.int .i64 v.kd, .int .u64 v.nn, .str v.tx, .lst 4 (zm8 v) (zk9 v)] (i * 4 + j)) := by
 refine ⟨rfl, fun i hi => ?_⟩
 have : i = 0 := by omega
 subst this
 exact ⟨⟨_, rfl⟩, ⟨_, rfl⟩, ⟨_, rfl⟩, (zku v).2⟩
theorem yar : zb6 1 = [1] := by rw [zb6, show (1 : Int).toNat = 1 from rfl, zbd (by decide)]; rfl
theorem yrj : zb6 5 = [5] := by rw [zb6, show (5 : Int).toNat = 5 from rfl, zbd (by decide)]; rfl
theorem ztj : zbv (zdq [zgy 5]) = [3, 1, 1, 5] := by
 rw [zdq, zgy, zan, if_neg (by decide), if_neg (by decide), zb1, zan, if_pos rfl, zb1, yrj]
 show _ ++ (zb6 1 ++ _) = _
 rw [yar]; rfl
theorem yp2 : zfo (zdq [zgy 5]) = true := by rw [zdq, zgy, zfo, zdi, zfo, zdi]; rfl
theorem yp1 : zdf (zdq [zgy 5]) = 1 := by rw [zdq, zgy, zdf, zb2, zdf, zb2]; rfl
theorem yoz : sizeC (zdq [zgy 5]) = 2 := by rw [zdq, zgy, zcq, zbi, zck, zcq, zck]
theorem yeh : zsh (zdq [zgy 5]) = 0 := by rw [zsh, yp2, yp1, ztj]; rfl
theorem yp0 : zxv (zdq [zgy 5]) = [3, 1, 1, 5] := by rw [zxv, yeh, ztj]; rfl
theorem ywt : ya9 (zdq [zgy 5]) := by
 refine ⟨?_, by rw [ztj]; decide⟩
 simp only [zdq, zgy, wfV, zuc, zcr]
 decide
theorem zz9 : za9 Tryz.prog 91 [] (.bool true) := by
 refine za6 (T := tt) (S := fun L => zam [zy5 L, zfr L, zwi 100 L, tru 123]) (lo := noA) (lb := noA) 5 (fn := Tryz.f91) rfl rfl (by kernel_rfl) (by kernel_rfl) rfl zab (za2 ⟨zjz, zca, znj 100, zbw zns, trivial⟩) (by kernel_rfl) ?_
 intro L P' Q' hL hP hQ
 (cbv; try simp only [syT, true_and, and_true])
 (subst hL; subst hQ; simp only [L2, L3, std] at *; try simp only [syS, reduceCtorEq, Int.reduceToNat, Int.reduceAdd, Int.reduceSub] at *)
 simp only [one1, zdn, zby, yeh, yp0]
 exact ⟨⟨yn7 _, by show (1 : Nat) <= 1000000; omega⟩, ⟨(zku _).2, ⟨by rw [yoz]; omega, by omega⟩, ywt⟩, fun _ => trivial, trivial⟩
theorem zzk : za9 Tryz.prog 67 [] (.bool true) := by
 refine za6 (T := tt) (S := fun L => zam [tru 91]) (lo := noA) (lb := noA) 5 (fn := Tryz.f67) rfl rfl (by kernel_rfl) (by kernel_rfl) rfl zab (za2 ⟨zbw zz9, trivial⟩) (by kernel_rfl) ?_
 (intro L P1 Q1 hL hP hQ; cbv; subst hL; simp only [L2, L3, std, syT]; subst hQ)
 (simp only [syS, reduceCtorEq, Int.reduceToNat, Int.reduceAdd, Int.reduceSub])
theorem zp9 (g : Nat -> CV) {i q j : Nat} (hq : q < i + 1) (hj : j < 4) :
   zhh std (zbm q i) (cv1 std (g q) j) (zbo .dead [.int .i64 (g i).kd, .int .u64 (g i).nn, .str (g i).tx, .lst 4 (zm8 (g i)) (zk9 (g i))] ((q - i) * 4 + j)) = cv1 std (g q) j := by
 by_cases h : q < i
 · rw [zu2 h, show q - i = 0 by omega, Nat.zero_mul, Nat.zero_add]
   match j, hj with
   | 0, _ => rfl
   | 1, _ => rfl
   | 2, _ => rfl
   | 3, _ => rfl
 · have : q = i := by omega
   subst this
   rw [yfs (by omega), show q - q = 0 by omega, Nat.zero_mul, Nat.zero_add]
   match j, hj with
   | 0, _ => rfl
   | 1, _ => rfl
   | 2, _ => rfl
   | 3, _ => rfl
end Sy
end Go.Proofs.YtogpolfhcbgcbaaGreatDoor
namespace Go.Proofs.YtogpolfhcbgcbaaGreatDoor
namespace Sy
open Go Go.RowKit
set_option maxRecDepth 100000
set_option linter.unusedSimpArgs false
set_option linter.unusedVariables false
structure Nd where
 k : Int
 n : Int
 s : List UInt8
 b : List UInt8
def yuv (l : List Nd) (i : Nat) : Nd := l.getD i ⟨0, 0, [], []⟩
def yq7 {α : Type} (all : List α) : List UInt8 -> List α
 | [] => []
 | x :: b => if h : x.toNat < all.length then all[all.length - 1 - x.toNat] :: yq7 all b else yq7 all b
def sumI : List Int -> Int
 | [] => 0
 | x :: l => x + sumI l
def sizN (all : List Int) (d : Nd) : Int := 1 + ((d.s.length / 8 : Nat) : Int) + sumI (yq7 all d.b)
def ymc (l : List Nd) : Nat -> List Int
 | 0 => []
 | i + 1 => ymc l i ++ [sizN (ymc l i) (yuv l i)]
def sizD (l : List Nd) (i : Nat) : Int := sizN (ymc l i) (yuv l i)
def yji (l : List Nd) (i : Nat) : Prop := sizD l i <= 2000 /\ (yuv l i).s.length <= 9000 /\ (yuv l i).b.length <= 20 /\ l.length <= 40
def ylb (l : List Nd) (i : Nat) : Prop := ∀ j, j < i -> yji l j
instance (l : List Nd) (i : Nat) : Decidable (yji l i) := by unfold yji; exact inferInstance
instance (l : List Nd) (i : Nat) : Decidable (ylb l i) := by unfold ylb; exact Nat.decidableBallLT i fun j _ => yji l j
end Sy
end Go.Proofs.YtogpolfhcbgcbaaGreatDoor
namespace Go.Proofs.YtogpolfhcbgcbaaGreatDoor
namespace Sy
open Go Go.RowKit
set_option maxRecDepth 100000
set_option linter.unusedSimpArgs false
set_option linter.unusedVariables false
end Sy
end Go.Proofs.YtogpolfhcbgcbaaGreatDoor
namespace Go.Proofs.YtogpolfhcbgcbaaGreatDoor
namespace Sy
open Go Go.RowKit
set_option maxRecDepth 100000
set_option linter.unusedSimpArgs false
set_option linter.unusedVariables false
structure Lv where
 left : Int
 l : List CV
structure NR where
 v : CV
 r : List UInt8
 e : Int
structure NX where
 st : List Lv
 s : List UInt8
 f : Nat
 v : CV
def zmc (e : Int) : NR := ⟨.mk 0 0 [] [], [], e⟩
def zfc (val : List Lv -> List UInt8 -> NR) : List Lv -> CV -> List UInt8 -> NR
 | [], v, s => ⟨v, s, 0⟩
 | a :: st, v, s => if a.left - 1 = 0 then zfc val st (.mk 3 0 [] (a.l ++ [v])) s else val (⟨a.left - 1, a.l ++ [v]⟩ :: st) s
def zj6 (val : List Lv -> List UInt8 -> NR) : List Lv -> List UInt8 -> NR
 | [], s => zmc 0
 | a :: st, s => if a.left = 0 then zfc val st (.mk 3 0 [] a.l) s else val (a :: st) s
def zh4 (s : List UInt8) : List UInt8 := (s.drop 1).drop (yw9 (s.drop 1)).toNat
def zeb : Nat -> List Lv -> List UInt8 -> NR
 | 0, _, _ => zmc 0
 | f + 1, st, s =>
   if s = [] then zmc 3
   else if cb s 0 < 1 \/ 3 < cb s 0 then zmc 10
   else if yuz (s.drop 1) ≠ 0 then zmc (yuz (s.drop 1))
   else if cb s 0 = 1 then zfc (zeb f) st (.mk 1 (ynn (s.drop 1)) [] []) (zh4 s)
   else if cb s 0 = 2 then
     if ((zh4 s).length : Int) < ynn (s.drop 1) then zmc 3
     else zfc (zeb f) st (.mk 2 0 ((zh4 s).take (ynn (s.drop 1)).toNat) []) ((zh4 s).drop (ynn (s.drop 1)).toNat)
   else if st.length = 6 then zmc 8
   else zj6 (zeb f) (⟨ynn (s.drop 1), []⟩ :: st) (zh4 s)
def ys6 (s : List UInt8) : NR := if 8192 < s.length then zmc 5 else zeb (s.length + 1) [] s
def yre : List Lv -> Nat
 | [] => 0
 | a :: r => a.l.length + 1 + yre r
def lvOk (st : List Lv) : Prop := ∀ a ∈ st, 1 <= a.left /\ a.left < 18446744073709551616
def yw5 (s0 : List UInt8) (x : NX) : Prop := x.st.length <= 6 /\ lvOk x.st /\ x.s.length < x.f /\ x.s.length + yre x.st <= 8192 /\ zeb x.f x.st x.s = ys6 s0
section
variable {s0 s : List UInt8} {st : List Lv} {f : Nat} {v : CV}
variable (h : yw5 s0 ⟨st, s, f, v⟩)
include h
end
section
variable {s0 s : List UInt8} {st : List Lv} {f : Nat} {v : CV} {a : Lv}
end
end Sy
end Go.Proofs.YtogpolfhcbgcbaaGreatDoor
namespace Go.Proofs.YtogpolfhcbgcbaaGreatDoor
namespace Sy
open Go Go.RowKit
set_option maxRecDepth 100000
set_option linter.unusedSimpArgs false
set_option linter.unusedVariables false
theorem zof {m : Int} (h : zcr m) (g : Nat) (st : List Lv) (c : UInt8) (r : List UInt8) (hc : 1 <= c.toNat /\ c.toNat <= 3) : zeb (g + 1) st (c :: (zb6 m ++ r)) =
   if c.toNat = 1 then zfc (zeb g) st (.mk 1 m [] []) r
   else if c.toNat = 2 then
     if (r.length : Int) < m then zmc 3
     else zfc (zeb g) st (.mk 2 0 (r.take m.toNat) []) (r.drop m.toNat)
   else if st.length = 6 then zmc 8
   else zj6 (zeb g) (⟨m, []⟩ :: st) r := by
 obtain ⟨e1, e2, e3⟩ := yso h r
 have hcb : cb (c :: (zb6 m ++ r)) 0 = c.toNat := rfl
 have hr : zh4 (c :: (zb6 m ++ r)) = r := by
   unfold zh4
   rw [List.drop_succ_cons, List.drop_zero, e2]
   simp
 rw [zeb, if_neg (by simp), hcb, if_neg (by omega), List.drop_succ_cons, List.drop_zero, e1, e3, hr, if_neg (by simp)]
theorem ypc (v : CV) : 0 <= zdf v /\ 0 <= zb2 v.ls := by
 have h0 : ∀ b : List CV, 0 <= zb2 b := by
   intro b
   induction b with
   | nil => rw [zb2]; omega
   | cons v l ih => rw [zb2]; omega
 refine ⟨?_, h0 _⟩
 cases v with
 | mk k n s l =>
   rw [zdf]
   have := h0 l
   split <;> omega
def yqf (v : CV) : Prop := ∀ (st : List Lv) (s : List UInt8) (f : Nat), wfV v -> zfo v = true -> (st.length : Int) + zdf v <= 6 -> (zbv v).length <= 90000000 -> (zbv v).length + s.length < f ->
 ∃ f', s.length < f' /\ zeb f st (zbv v ++ s) = zfc (zeb f') st v s
theorem ygp (v : CV) : 0 < (zbv v).length := by
 cases v with
 | mk k n s l =>
   rw [zan, List.length_append]
   show 0 < 1 + _
   omega
theorem zpo : ∀ l : List CV, l.length <= (zb1 l).length
 | [] => by simp
 | v :: l => by
   have := zpo l
   have := ygp v
   rw [zb1, List.length_append, List.length_cons]
   omega
theorem zv6 (st : List Lv) (s : List UInt8) : ∀ (l : List CV) (acc : List CV) (f : Nat), (∀ w ∈ l, yqf w) -> zuc l -> zdi l = true -> (st.length : Int) + 1 + zb2 l <= 6 -> (zb1 l).length <= 90000000 -> (zb1 l).length + s.length < f ->
   ∃ f', s.length < f' /\ zj6 (zeb f) (⟨(l.length : Int), acc⟩ :: st) (zb1 l ++ s) = zfc (zeb f') st (.mk 3 0 [] (acc ++ l)) s
 | [], acc, f, hr, hw, hb, hd, ht, hf => by
   refine ⟨f, by rw [zb1] at hf; simpa using hf, ?_⟩
   rw [zj6, if_pos (show ((List.length ([] : List CV) : Nat) : Int) = 0 from rfl), zb1, List.nil_append, List.append_nil]
 | v :: l, acc, f, hr, hw, hb, hd, ht, hf => by
   rw [zuc] at hw
   rw [zdi, Bool.and_eq_true] at hb
   rw [zb2] at hd
   rw [zb1, List.length_append] at ht hf
   obtain ⟨f1, h1, e1⟩ := hr v (by simp) (⟨((v :: l).length : Int), acc⟩ :: st) (zb1 l ++ s) f hw.1 hb.1 (by rw [List.length_cons]; omega) (by omega) (by rw [List.length_append]; omega)
   rw [List.length_append] at h1
   obtain ⟨f2, h2, e2⟩ := zv6 st s l (acc ++ [v]) f1 (fun w hw => hr w (by simp [hw])) hw.2 hb.2 (by omega) (by omega) h1
   refine ⟨f2, h2, ?_⟩
   rw [zj6, if_neg (by simp; omega), zb1, List.append_assoc, e1]
   have e3 : (((v :: l).length : Int) - 1) = (l.length : Int) := by simp
   rw [zj6] at e2
   rw [zfc]
   simp only [e3]
   rw [e2, List.append_assoc, List.singleton_append]
theorem reads (v : CV) : yqf v := by
 refine yet (p := yqf) (fun k n s l ih => ?_) v
 intro st r f hw hb hd ht hf
 rw [wfV] at hw
 obtain ⟨g, rfl⟩ : ∃ g, f = g + 1 := ⟨f - 1, by omega⟩
 rw [zan] at ht hf |-
 rw [zfo] at hb
 by_cases h1 : k = 1
 · subst h1
   rw [if_pos rfl] at hb ht hf |-
   simp only [Bool.and_eq_true, decide_eq_true_eq, List.isEmpty_iff] at hb
   obtain ⟨rfl, rfl⟩ := hb
   rw [List.length_append] at hf
   have e : zgf 1 = [1] := rfl
   rw [e] at hf |-
   refine ⟨g, by simp at hf; omega, ?_⟩
   rw [List.singleton_append, List.cons_append, zof hw.1 g st 1 r (by decide)]
   rfl
 · rw [if_neg h1] at hb ht hf |-
   by_cases h2 : k = 2
   · subst h2
     rw [if_pos rfl] at hb ht hf |-
     simp only [Bool.and_eq_true, decide_eq_true_eq, List.isEmpty_iff] at hb
     obtain ⟨rfl, rfl⟩ := hb
     rw [List.length_append, List.length_append] at ht hf
     have e : zgf 2 = [2] := rfl
     rw [e] at hf |-
     refine ⟨g, by simp at hf; omega, ?_⟩
     rw [List.singleton_append, List.cons_append, List.append_assoc, zof ⟨by omega, by omega⟩ g st 2 (s ++ r) (by decide)]
     rw [if_neg (by decide), if_pos (by decide), if_neg (by simp; omega)]
     rw [Int.toNat_natCast, List.take_left, List.drop_left]
   · rw [if_neg h2] at hb ht hf |-
     by_cases h3 : k = 3
     · subst h3
       rw [if_pos rfl] at hb
       simp only [Bool.and_eq_true, decide_eq_true_eq] at hb
       obtain ⟨⟨rfl, rfl⟩, hb⟩ := hb
       rw [zdf, if_pos rfl] at hd
       rw [List.length_append, List.length_append] at ht hf
       have e : zgf 3 = [3] := rfl
       rw [e] at hf |-
       have hll := zpo l
       have hdn := (ypc (.mk 3 0 [] l)).2
       have hdn : 0 <= zb2 l := hdn
       obtain ⟨f', h5, h6⟩ := zv6 st r l [] g ih hw.2.2 hb (by omega) (by omega) (by simp at hf; omega)
       refine ⟨f', h5, ?_⟩
       rw [List.singleton_append, List.cons_append, List.append_assoc, zof ⟨by omega, by omega⟩ g st 3 (zb1 l ++ r) (by decide)]
       rw [if_neg (by decide), if_neg (by decide), if_neg (by omega), h6, List.nil_append]
     · rw [if_neg h3] at hb; cases hb
end Sy
end Go.Proofs.YtogpolfhcbgcbaaGreatDoor
namespace Go.Proofs.YtogpolfhcbgcbaaGreatDoor
namespace Sy
open Go Go.RowKit
set_option maxRecDepth 100000
set_option linter.unusedSimpArgs false
set_option linter.unusedVariables false
theorem yry {v : CV} (h : zsh v = 0) : zfo v = true /\ zdf v <= 6 /\ (zbv v).length <= 8192 /\ zxv v = zbv v := by
 have ht : zxv v = zbv v := by unfold zxv; rw [if_pos h]
 unfold zsh at h
 split at h
 · rename_i h1
   split at h
   · cases h
   · rename_i h2
     split at h
     · cases h
     · rename_i h3
       exact ⟨h1, by omega, by omega, ht⟩
 · cases h
end Sy
end Go.Proofs.YtogpolfhcbgcbaaGreatDoor
namespace Go.Proofs.YtogpolfhcbgcbaaGreatDoor
namespace Sy
open Go Go.RowKit
set_option maxRecDepth 100000
set_option linter.unusedSimpArgs false
set_option linter.unusedVariables false
theorem zup {n : Nat} {get : Nat -> Nat -> AV} {l : List CV} (hn : n = l.length) (h : ∀ i j, i < n -> j < 4 -> get i j = ze5 (zdm l i) j) : rdL (.lst 4 n get) = l /\ okL (.lst 4 n get) := by
 constructor
 · apply List.ext_getElem
   · rw [zkt, hn]
   · intro i h1 h2
     have hi : i < n := by omega
     have e : ∀ m : List CV, ∀ hm : i < m.length, m[i] = zdm m i := fun m hm => by rw [zdm, List.getD_eq_getElem?_getD, List.getElem?_eq_getElem hm]; rfl
     rw [e _ h1, e _ h2, zuo hi, h i 0 hi (by omega), h i 1 hi (by omega), h i 2 hi (by omega), h i 3 hi (by omega), zfm, zfl, zfk, zfj]
     show CV.mk _ _ _ (rdL (.lst 4 (zm8 (zdm l i)) (zk9 (zdm l i)))) = _
     exact zdn _
 · refine ⟨rfl, fun i hi => ?_⟩
   rw [h i 0 hi (by omega), h i 1 hi (by omega), h i 2 hi (by omega), h i 3 hi (by omega), zfm, zfl, zfk, zfj]
   exact ⟨⟨_, rfl⟩, ⟨_, rfl⟩, ⟨_, rfl⟩, (zku (zdm l i)).2⟩
end Sy
end Go.Proofs.YtogpolfhcbgcbaaGreatDoor
namespace Go.Proofs.YtogpolfhcbgcbaaGreatDoor
namespace Sy
open Go Go.RowKit
set_option maxRecDepth 100000
set_option linter.unusedSimpArgs false
set_option linter.unusedVariables false
structure Rt where
 h : List UInt8
 p : List UInt8
 c : List UInt8
 i : Int
 deriving DecidableEq
structure Ep where
 pl : Pl
 w : Int
 deriving DecidableEq
structure Ls where
 n : List UInt8
 pl : Pl
 rs : List Rt
 deriving DecidableEq
structure Cl where
 n : List UInt8
 es : List Ep
 deriving DecidableEq
structure Cf where
 v : Int
 ls : List Ls
 cs : List Cl
 deriving DecidableEq
def plC (L : za7) (x : Pl) : Nat -> AV
 | 0 => .int .u8 (L Pl.a x)
 | 1 => .int .u8 (L Pl.b x)
 | 2 => .int .u8 (L Pl.c x)
 | 3 => .int .u8 (L Pl.d x)
 | _ => .int .u16 (L Pl.p x)
def rdP (c : Nat -> AV) : Pl := ⟨(c 0).toI, (c 1).toI, (c 2).toI, (c 3).toI, (c 4).toI⟩
def yuu (c : Nat -> AV) : Prop := isI .u8 (c 0) /\ isI .u8 (c 1) /\ isI .u8 (c 2) /\ isI .u8 (c 3) /\ isI .u16 (c 4)
def rtC (L : za7) (x : Rt) : Nat -> AV
 | 0 => .str (L Rt.h x)
 | 1 => .str (L Rt.p x)
 | 2 => .str (L Rt.c x)
 | _ => .int .u64 (L Rt.i x)
def rtV : Vw Rt := ⟨4, rtC, fun c => ⟨zur (c 0), zur (c 1), zur (c 2), (c 3).toI⟩, fun c => isS (c 0) /\ isS (c 1) /\ isS (c 2) /\ isI .u64 (c 3), ⟨[], [], [], 0⟩⟩
def zbk (l : List Rt) (i : Nat) : Rt := zik rtV l i
def yig (L : za7) (l : List Rt) : AV := .lst 4 (L zcm l) (fun i => rtC L (L (L zbk l) i))
def yna (x : AV) : Prop := okW rtV x
def ymu (x : AV) : List Rt := rdW rtV x
def yhw (x : AV) : Prop := okG rtV x
def yhi (x : AV) : Rt := rdG rtV x
def epC (L : za7) (x : Ep) : Nat -> AV
 | 5 => .int .i64 (L Ep.w x)
 | j => plC L (L Ep.pl x) j
def epV : Vw Ep := ⟨6, epC, fun c => ⟨rdP c, (c 5).toI⟩, fun c => yuu c /\ isI .i64 (c 5), ⟨⟨0, 0, 0, 0, 0⟩, 0⟩⟩
def zi0 (l : List Ep) (i : Nat) : Ep := zik epV l i
def zt0 (L : za7) (l : List Ep) : AV := .lst 6 (L zcm l) (fun i => epC L (L (L zi0 l) i))
def zss (x : AV) : Prop := okW epV x
def zse (x : AV) : List Ep := rdW epV x
def zoe (x : AV) : Prop := okG epV x
def zo4 (x : AV) : Ep := rdG epV x
def lsC (L : za7) (x : Ls) : Nat -> AV
 | 0 => .str (L Ls.n x)
 | 6 => yig L (L Ls.rs x)
 | j + 1 => plC L (L Ls.pl x) j
def lsV : Vw Ls := ⟨7, lsC, fun c => ⟨zur (c 0), rdP (fun j => c (j + 1)), rdW rtV (c 6)⟩, fun c => isS (c 0) /\ yuu (fun j => c (j + 1)) /\ okW rtV (c 6), ⟨[], ⟨0, 0, 0, 0, 0⟩, []⟩⟩
def zmb (l : List Ls) (i : Nat) : Ls := zik lsV l i
def zsz (L : za7) (l : List Ls) : AV := .lst 7 (L zcm l) (fun i => lsC L (L (L zmb l) i))
def zsr (x : AV) : Prop := okW lsV x
def zsd (x : AV) : List Ls := rdW lsV x
def zj5 (x : AV) : Prop := okG lsV x
def zcw (x : AV) : Ls := rdG lsV x
def clC (L : za7) (x : Cl) : Nat -> AV
 | 0 => .str (L Cl.n x)
 | _ => zt0 L (L Cl.es x)
def clV : Vw Cl := ⟨2, clC, fun c => ⟨zur (c 0), rdW epV (c 1)⟩, fun c => isS (c 0) /\ okW epV (c 1), ⟨[], []⟩⟩
def zl3 (l : List Cl) (i : Nat) : Cl := zik clV l i
def zom (L : za7) (l : List Cl) : AV := .lst 2 (L zcm l) (fun i => clC L (L (L zl3 l) i))
def zl1 (x : AV) : Prop := okW clV x
def zkw (x : AV) : List Cl := rdW clV x
def zhz (x : AV) : Prop := okG clV x
def zhu (x : AV) : Cl := rdG clV x
def cfC (L : za7) (x : Cf) : Nat -> AV
 | 0 => .int .u64 (L Cf.v x)
 | 1 => zsz L (L Cf.ls x)
 | _ => zom L (L Cf.cs x)
def cfV : Vw Cf := ⟨3, cfC, fun c => ⟨(c 0).toI, rdW lsV (c 1), rdW clV (c 2)⟩, fun c => isI .u64 (c 0) /\ okW lsV (c 1) /\ okW clV (c 2), ⟨0, [], []⟩⟩
def zst (x : AV) : Prop := okG cfV x
def zo5 (x : AV) : Cf := rdG cfV x
theorem zjk : zrv rtV := by
 refine ⟨fun c hc j hj h D μ v r => ?_, fun c x hx => ?_⟩
 · obtain ⟨h0, h1, h2, h3⟩ := hc
   match j, hj with
   | 0, _ => exact ydd h0 r
   | 1, _ => exact ydd h1 r
   | 2, _ => exact ydd h2 r
   | 3, _ => exact zqp h3 r
 · have e0 := hx 0 (by decide)
   have e1 := hx 1 (by decide)
   have e2 := hx 2 (by decide)
   have e3 := hx 3 (by decide)
   refine ⟨⟨⟨_, e0⟩, ⟨_, e1⟩, ⟨_, e2⟩, ⟨_, e3⟩⟩, ?_⟩
   show Rt.mk (zur (c 0)) (zur (c 1)) (zur (c 2)) (c 3).toI = x
   rw [e0, e1, e2, e3]; rfl
theorem zej {c : Nat -> AV} (hc : yuu c) {j : Nat} (hj : j < 5) {h : Array Obj} {D : Nat -> Prop} {μ : Mu} {v : Value} (r : R h D μ (c j) v) : R h D μ (plC std (rdP c) j) v := by
 obtain ⟨h0, h1, h2, h3, h4⟩ := hc
 match j, hj with
 | 0, _ => exact zqp h0 r
 | 1, _ => exact zqp h1 r
 | 2, _ => exact zqp h2 r
 | 3, _ => exact zqp h3 r
 | 4, _ => exact zqp h4 r
theorem yc6 {c : Nat -> AV} {x : Pl} (hx : ∀ j, j < 5 -> c j = plC std x j) : yuu c /\ rdP c = x := by
 have e0 := hx 0 (by decide)
 have e1 := hx 1 (by decide)
 have e2 := hx 2 (by decide)
 have e3 := hx 3 (by decide)
 have e4 := hx 4 (by decide)
 refine ⟨⟨⟨_, e0⟩, ⟨_, e1⟩, ⟨_, e2⟩, ⟨_, e3⟩, ⟨_, e4⟩⟩, ?_⟩
 unfold rdP
 rw [e0, e1, e2, e3, e4]; rfl
theorem zf0 : zrv epV := by
 refine ⟨fun c hc j hj h D μ v r => ?_, fun c x hx => ?_⟩
 · obtain ⟨h0, h1⟩ := hc
   match j, hj with
   | 0, _ => exact zej h0 (by omega) r
   | 1, _ => exact zej h0 (by omega) r
   | 2, _ => exact zej h0 (by omega) r
   | 3, _ => exact zej h0 (by omega) r
   | 4, _ => exact zej h0 (by omega) r
   | 5, _ => exact zqp h1 r
 · have e5 := hx 5 (by decide)
   have hp := yc6 (c := c) (x := x.pl) (fun j hj => by
     match j, hj with
     | 0, _ => exact hx 0 (by decide)
     | 1, _ => exact hx 1 (by decide)
     | 2, _ => exact hx 2 (by decide)
     | 3, _ => exact hx 3 (by decide)
     | 4, _ => exact hx 4 (by decide))
   refine ⟨⟨hp.1, ⟨_, e5⟩⟩, ?_⟩
   show Ep.mk (rdP c) (c 5).toI = x
   rw [hp.2, e5]; rfl
theorem zd0 : zrv lsV := by
 refine ⟨fun c hc j hj h D μ v r => ?_, fun c x hx => ?_⟩
 · obtain ⟨h0, h1, h2⟩ := hc
   match j, hj with
   | 0, _ => exact ydd h0 r
   | 1, _ => exact zej (c := fun j => c (j + 1)) h1 (j := 0) (by omega) r
   | 2, _ => exact zej (c := fun j => c (j + 1)) h1 (j := 1) (by omega) r
   | 3, _ => exact zej (c := fun j => c (j + 1)) h1 (j := 2) (by omega) r
   | 4, _ => exact zej (c := fun j => c (j + 1)) h1 (j := 3) (by omega) r
   | 5, _ => exact zej (c := fun j => c (j + 1)) h1 (j := 4) (by omega) r
   | 6, _ => exact zy3 zjk h2 r
 · have e0 := hx 0 (by decide)
   have e6 := hx 6 (by decide)
   have hp := yc6 (c := fun j => c (j + 1)) (x := x.pl) (fun j hj => by
     match j, hj with
     | 0, _ => exact hx 1 (by decide)
     | 1, _ => exact hx 2 (by decide)
     | 2, _ => exact hx 3 (by decide)
     | 3, _ => exact hx 4 (by decide)
     | 4, _ => exact hx 5 (by decide))
   have e6 : c 6 = zyd std rtV x.rs := e6
   obtain ⟨k1, k2⟩ := zc7 zjk x.rs
   rw [<- e6] at k1 k2
   refine ⟨⟨⟨_, e0⟩, hp.1, k1⟩, ?_⟩
   show Ls.mk (zur (c 0)) (rdP fun j => c (j + 1)) (rdW rtV (c 6)) = x
   rw [hp.2, k2, e0]; rfl
theorem zd1 : zrv clV := by
 refine ⟨fun c hc j hj h D μ v r => ?_, fun c x hx => ?_⟩
 · obtain ⟨h0, h1⟩ := hc
   match j, hj with
   | 0, _ => exact ydd h0 r
   | 1, _ => exact zy3 zf0 h1 r
 · have e0 := hx 0 (by decide)
   have e1 : c 1 = zyd std epV x.es := hx 1 (by decide)
   obtain ⟨k1, k2⟩ := zc7 zf0 x.es
   rw [<- e1] at k1 k2
   refine ⟨⟨⟨_, e0⟩, k1⟩, ?_⟩
   show Cl.mk (zur (c 0)) (rdW epV (c 1)) = x
   rw [k2, e0]; rfl
theorem zrc : zrv cfV := by
 refine ⟨fun c hc j hj h D μ v r => ?_, fun c x hx => ?_⟩
 · obtain ⟨h0, h1, h2⟩ := hc
   match j, hj with
   | 0, _ => exact zqp h0 r
   | 1, _ => exact zy3 zd0 h1 r
   | 2, _ => exact zy3 zd1 h2 r
 · have e0 := hx 0 (by decide)
   have e1 : c 1 = zyd std lsV x.ls := hx 1 (by decide)
   have e2 : c 2 = zyd std clV x.cs := hx 2 (by decide)
   obtain ⟨k1, k2⟩ := zc7 zd0 x.ls
   obtain ⟨k3, k4⟩ := zc7 zd1 x.cs
   rw [<- e1] at k1 k2
   rw [<- e2] at k3 k4
   refine ⟨⟨⟨_, e0⟩, k1, k3⟩, ?_⟩
   show Cf.mk (c 0).toI (rdW lsV (c 1)) (rdW clV (c 2)) = x
   rw [k2, k4, e0]; rfl
end Sy
end Go.Proofs.YtogpolfhcbgcbaaGreatDoor
namespace Go.Proofs.YtogpolfhcbgcbaaGreatDoor
namespace Sy
open Go Go.RowKit
set_option maxRecDepth 100000
set_option linter.unusedSimpArgs false
set_option linter.unusedVariables false
theorem yhy {α : Type} {V : Vw α} (val : α -> CV) {l : List α} {i : Nat} (h : i < l.length) : zdm (l.map val) i = val (zik V l i) := by
 rw [zav h, zdm, List.getD_eq_getElem?_getD, List.getElem?_eq_getElem (by simpa using h)]; simp
theorem zk7 {α : Type} {V : Vw α} {val : α -> CV} {l : List α} {n : Nat} (h : n = l.length) :
   rdL (.lst 4 n fun q j => cv1 std (val (zik V l q)) j) = l.map val /\ okL (.lst 4 n fun q j => cv1 std (val (zik V l q)) j) :=
 zup (by simpa using h) fun i j hi hj => by rw [zts _ _ hj, yhy (V := V) val (by omega)]
def zwl : List CV -> List AV
 | [] => []
 | v :: l => .int .i64 v.kd :: .int .u64 v.nn :: .str v.tx :: .lst 4 (zm8 v) (zk9 v) :: zwl l
theorem zrd : ∀ (l : List CV) (i j : Nat), i < l.length -> j < 4 -> zbo .dead (zwl l) (i * 4 + j) = ze5 (zdm l i) j
 | [], i, j, hi, _ => by simp at hi
 | v :: l, 0, j, _, hj => by
   match j, hj with
   | 0, _ => exact (zfm v).symm
   | 1, _ => exact (zfl v).symm
   | 2, _ => exact (zfk v).symm
   | 3, _ => exact (zfj v).symm
 | v :: l, i + 1, j, hi, hj => by
   rw [show (i + 1) * 4 + j = i * 4 + j + 4 by omega]
   exact zrd l i j (by simpa using hi) hj
theorem zlz (l : List CV) {n : Nat} {cs : List AV} (hn : n = l.length) (h : cs = zwl l) : rdL (.lst 4 n fun i j => zbo .dead cs (i * 4 + j)) = l /\ okL (.lst 4 n fun i j => zbo .dead cs (i * 4 + j)) :=
 zup hn fun i j hi hj => by rw [h]; exact zrd l i j (by omega) hj
theorem zra {v w : CV} (h : v = w) : zfs (cvA std v) (.agg [.int .i64 w.kd, .int .u64 w.nn, .str w.tx, .lst 4 (zm8 w) (zk9 w)]) := by
 subst h
 show zfs (.agg [.int .i64 v.kd, .int .u64 v.nn, .str v.tx, .lst 4 (zm8 v) (zk9 v)]) _
 simp [zgd, zd7, zds, zje, zdt]
theorem zj0 (l : List CV) {v : CV} {n : Nat} {cs : List AV} (hv : v = zdq l) (hn : n = l.length) (hl : l.length <= 4) (h : cs = zwl l) :
   (okL (.lst 4 n fun i j => zbo .dead cs (i * 4 + j)) /\ yd7 (rdL (.lst 4 n fun i j => zbo .dead cs (i * 4 + j)))) /\
   ∀ {w : CV}, w = zdq (rdL (.lst 4 n fun i j => zbo .dead cs (i * 4 + j))) -> zfs (cvA std v) (.agg [.int .i64 w.kd, .int .u64 w.nn, .str w.tx, .lst 4 (zm8 w) (zk9 w)]) := by
 obtain ⟨k1, k2⟩ := zlz l hn h
 refine ⟨⟨k2, ?_⟩, fun {w} hw => zra ?_⟩
 · rw [k1]
   show l.length <= 1000000
   omega
 · rw [hw, k1, hv]
end Sy
end Go.Proofs.YtogpolfhcbgcbaaGreatDoor
namespace Go.Proofs.YtogpolfhcbgcbaaGreatDoor
namespace Sy
open Go Go.RowKit
set_option maxRecDepth 100000
set_option linter.unusedSimpArgs false
set_option linter.unusedVariables false
def zrq {α : Type} (f : Nat) (ok : AV -> Prop) (rd : AV -> α) (pre : α -> Prop) (val : α -> CV) (L : za7) : zbf := (f, fun xs => match xs with
 | [x] => some (L ok x /\ L pre (L rd x), cvA L (L val (L rd x)))
 | _ => none)
def zil {α : Type} (l : List α) : Prop := l.length <= 1000000
def zzt {α : Type} (p : α -> Prop) (l : List α) : Prop := ∀ x ∈ l, p x
def zp7 {α : Type} (val : α -> CV) (l : List α) : CV := zdq (l.map val)
def zjv {α : Type} (f g : Nat) (ok : AV -> Prop) (rd : AV -> List α) (pre : List α -> Prop) (val : List α -> CV) (L : za7) : zbf := (f, fun xs => match xs with
 | [x, .fn k [] []] => match zap k g with
   | true => some (L ok x /\ L zil (L rd x) /\ L pre (L rd x), cvA L (L val (L rd x)))
   | false => none
 | _ => none)
def yjn {α : Type} (L : za7) (nth : List α -> Nat -> α) (val : α -> CV) (l : List α) : Nat -> St -> Option Ann := fun id st => match id with
 | 0 => some ⟨Nat, fun i => [(10, .int .i64 (L zac i)), (4, .ref 4 0), (5, .sl 900 4 0 i)], fun i => [(900, .row 117 4 i (fun q j => cv1 L (L val (L (L nth l) q)) j)), (4, .box 117 [.dead, .dead, .dead, .dead])], [0, 1, 8, 9], [],
     fun i => L2 L (fun (l : List α) i => i <= l.length) l i, fun i => L2 L (fun (l : List α) (i : Nat) => l.length - i) l i⟩
 | _ => none
def zhs (x : Rt) : CV := zdq [zjx x.h, zjx x.p, zjx x.c, zgy x.i]
def zib (x : Ep) : CV := zdq [zjx (plB x.pl), zgy (x.w % 18446744073709551616)]
def zxm (x : Rt) : Prop := True
def zyy (x : Ep) : Prop := zzn x.pl
def zum (l : List Rt) : CV := zp7 zhs l
def zwf (l : List Ep) : CV := zp7 zib l
def ykn (l : List Rt) : Prop := zzt zxm l
def yel (l : List Ep) : Prop := zzt zyy l
theorem zxp : zaz Tryz.prog (zrq 119 yhw yhi zxm zhs std) := by
 intro xs p r h hp
 dsimp only [zrq] at h |-
 split at h <;> cases h
 try simp only [L2, L3, std] at hp |-
 rename_i x
 refine zws zjk hp.1 ?_
 have hp := hp.2
 show za9 _ _ _ (cvA std (zhs (rdG rtV x)))
 have hp : zxm (rdG rtV x) := hp
 generalize rdG rtV x = y at hp |-
 refine za5 (T := tt) (S := fun L => zam [zwx L, zy5 L, zfr L]) (lo := fun _ => noA std) (lb := noA) 5 (fn := Tryz.f119) (xs := fun L => [.agg [.str (L Rt.h y), .str (L Rt.p y), .str (L Rt.c y), .int .u64 (L Rt.i y)]]) rfl rfl (by kernel_rfl) (by kernel_rfl) rfl zab (za2 ⟨zjw, zjz, zca, trivial⟩) (by kernel_rfl) ?_
 intro L P' Q' hL hP hQ
 (cbv; try simp only [syT, true_and, and_true])
 (subst hL; subst hQ; simp only [L2, L3, std] at *; try simp only [syS, reduceCtorEq, Int.reduceToNat, Int.reduceAdd, Int.reduceSub] at *)
 exact ⟨(zj0 [zjx y.h, zjx y.p, zjx y.c, zgy y.i] (v := zhs y) (n := 4) rfl rfl (Nat.le_of_ble_eq_true rfl) rfl).1, (zj0 [zjx y.h, zjx y.p, zjx y.c, zgy y.i] (v := zhs y) (n := 4) rfl rfl (Nat.le_of_ble_eq_true rfl) rfl).2 rfl⟩
theorem zp5 : zaz Tryz.prog (zrq 121 zoe zo4 zyy zib std) := by
 intro xs p r h hp
 dsimp only [zrq] at h |-
 split at h <;> cases h
 try simp only [L2, L3, std] at hp |-
 rename_i x
 refine zws zf0 hp.1 ?_
 have hp := hp.2
 show za9 _ _ _ (cvA std (zib (rdG epV x)))
 have hp : zyy (rdG epV x) := hp
 generalize rdG epV x = y at hp |-
 refine za5 (T := tt) (S := fun L => zam [zwx L, zy5 L, zfr L, zpd L]) (lo := fun _ => noA std) (lb := noA) 5 (fn := Tryz.f121) (xs := fun L => [.agg [.int .u8 (L Pl.a (L Ep.pl y)), .int .u8 (L Pl.b (L Ep.pl y)), .int .u8 (L Pl.c (L Ep.pl y)), .int .u8 (L Pl.d (L Ep.pl y)), .int .u16 (L Pl.p (L Ep.pl y)), .int .i64 (L Ep.w y)]]) rfl rfl (by kernel_rfl) (by kernel_rfl) rfl zab (za2 ⟨zjw, zjz, zca, znk, trivial⟩) (by kernel_rfl) ?_
 intro L P' Q' hL hP hQ
 (cbv; try simp only [syT, true_and, and_true])
 (subst hL; subst hQ; simp only [L2, L3, std] at *; try simp only [syS, reduceCtorEq, Int.reduceToNat, Int.reduceAdd, Int.reduceSub] at *)
 refine ⟨hp, (zj0 [zjx (plB y.pl), zgy (y.w % 18446744073709551616)] (v := zib y) (n := 2) rfl rfl (Nat.le_of_ble_eq_true rfl) rfl).1, (zj0 [zjx (plB y.pl), zgy (y.w % 18446744073709551616)] (v := zib y) (n := 2) rfl rfl (Nat.le_of_ble_eq_true rfl) rfl).2 rfl⟩
theorem ztm (ih : zaz Tryz.prog (zrq 119 yhw yhi zxm zhs std)) : zaz Tryz.prog (zjv 118 119 yna ymu ykn zum std) := by
 intro xs p r h hp
 unfold zjv at h
 simp only at h
 split at h
 rotate_left
 · cases h
 rename_i x k
 cases hk : zap k 119 with
 | false => rw [hk] at h; cases h
 | true =>
 rw [hk] at h
 obtain rfl : k = 119 := of_decide_eq_true hk
 cases h
 obtain ⟨ho, hz, ha⟩ := hp
 refine zhe zjk ho ?_
 have hz : zil (rdW rtV x) := hz
 have ha : zzt zxm (rdW rtV x) := ha
 show za9 _ _ _ (cvA std (zp7 zhs (rdW rtV x)))
 generalize rdW rtV x = l at hz ha |-
 refine za5 (T := tt) (S := fun L => zam [zrq 119 yhw yhi zxm zhs L, zfr L]) (lo := fun L => yjn L zbk zhs l) (lb := noA) 5 (fn := Tryz.f118) (xs := fun L => [yig L l, .fn 119 [] []]) rfl rfl (by kernel_rfl) (by kernel_rfl) rfl zab
   (za2 ⟨ih, zca, trivial⟩) (by kernel_rfl) ?_
 intro L P' Q' hL hP hQ
 (cbv; try simp only [syT, true_and, and_true])
 refine ⟨⟨0, ?_⟩, fun i hi => ?_⟩
 · (cbv; try simp only [syT, true_and, and_true])
   (subst hL; subst hQ; simp only [L2, L3, std] at *; try simp only [syS, reduceCtorEq, Int.reduceToNat, Int.reduceAdd, Int.reduceSub] at *)
   exact Nat.zero_le _
 · cbv at hi
   have hG : ∀ y : Rt, L yhi (.agg [.str (L Rt.h y), .str (L Rt.p y), .str (L Rt.c y), .int .u64 (L Rt.i y)]) = y := by subst hL; exact fun y => (gK zjk y _ rfl).2
   have hO : ∀ y : Rt, L yhw (.agg [.str (L Rt.h y), .str (L Rt.p y), .str (L Rt.c y), .int .u64 (L Rt.i y)]) := by subst hL; exact fun y => (gK zjk y _ rfl).1
   (cbv; try simp only [syT, true_and, and_true])
   simp only [hG, hO, true_and]
   refine ⟨fun hlt => ⟨?_, ?_, ?_, ⟨i + 1, ?_⟩⟩, fun hge => ?_⟩
   · (subst hL; subst hQ; simp only [L2, L3, std] at *; try simp only [syS, reduceCtorEq, Int.reduceToNat, Int.reduceAdd, Int.reduceSub] at *)
     omega
   · (subst hL; subst hQ; simp only [L2, L3, std] at *; try simp only [syS, reduceCtorEq, Int.reduceToNat, Int.reduceAdd, Int.reduceSub] at *)
     exact ha _ (by rw [zbk, zav (V := rtV) (by have : zcm l = l.length := rfl; omega)]; exact List.getElem_mem _)
   · (subst hL; subst hQ; simp only [L2, L3, std] at *; try simp only [syS, reduceCtorEq, Int.reduceToNat, Int.reduceAdd, Int.reduceSub] at *)
     have : zcm l = l.length := rfl
     have : l.length <= 1000000 := hz
     omega
   · (cbv; try simp only [syT, true_and, and_true])
     try simp only [hG]
     (subst hL; subst hQ; simp only [L2, L3, std] at *; try simp only [syS, reduceCtorEq, Int.reduceToNat, Int.reduceAdd, Int.reduceSub] at *)
     have : zcm l = l.length := rfl
     have : l.length <= 1000000 := hz
     exact ⟨fun q j hq hj => zp9 (fun q => zhs (zbk l q)) hq hj, by omega, by omega, by omega⟩
   · (subst hL; subst hQ; simp only [L2, L3, std] at *; try simp only [syS, reduceCtorEq, Int.reduceToNat, Int.reduceAdd, Int.reduceSub] at *)
     have : zcm l = l.length := rfl
     obtain ⟨k1, k2⟩ := zk7 (V := rtV) (val := zhs) (l := l) (n := i) (by omega)
     refine ⟨⟨k2, ?_⟩, zra ?_⟩
     · show List.length _ <= 1000000
       have k1 : rdL (.lst 4 i fun q j => cv1 std (zhs (zbk l q)) j) = l.map zhs := k1
       rw [k1, List.length_map]; exact hz
     · exact (congrArg zdq k1).symm
theorem zto (ih : zaz Tryz.prog (zrq 121 zoe zo4 zyy zib std)) : zaz Tryz.prog (zjv 120 121 zss zse yel zwf std) := by
 intro xs p r h hp
 unfold zjv at h
 simp only at h
 split at h
 rotate_left
 · cases h
 rename_i x k
 cases hk : zap k 121 with
 | false => rw [hk] at h; cases h
 | true =>
 rw [hk] at h
 obtain rfl : k = 121 := of_decide_eq_true hk
 cases h
 obtain ⟨ho, hz, ha⟩ := hp
 refine zhe zf0 ho ?_
 have hz : zil (rdW epV x) := hz
 have ha : zzt zyy (rdW epV x) := ha
 show za9 _ _ _ (cvA std (zp7 zib (rdW epV x)))
 generalize rdW epV x = l at hz ha |-
 refine za5 (T := tt) (S := fun L => zam [zrq 121 zoe zo4 zyy zib L, zfr L]) (lo := fun L => yjn L zi0 zib l) (lb := noA) 5 (fn := Tryz.f120) (xs := fun L => [zt0 L l, .fn 121 [] []]) rfl rfl (by kernel_rfl) (by kernel_rfl) rfl zab
   (za2 ⟨ih, zca, trivial⟩) (by kernel_rfl) ?_
 intro L P' Q' hL hP hQ
 (cbv; try simp only [syT, true_and, and_true])
 refine ⟨⟨0, ?_⟩, fun i hi => ?_⟩
 · (cbv; try simp only [syT, true_and, and_true])
   (subst hL; subst hQ; simp only [L2, L3, std] at *; try simp only [syS, reduceCtorEq, Int.reduceToNat, Int.reduceAdd, Int.reduceSub] at *)
   exact Nat.zero_le _
 · cbv at hi
   have hG : ∀ y : Ep, L zo4 (.agg [.int .u8 (L Pl.a (L Ep.pl y)), .int .u8 (L Pl.b (L Ep.pl y)), .int .u8 (L Pl.c (L Ep.pl y)), .int .u8 (L Pl.d (L Ep.pl y)), .int .u16 (L Pl.p (L Ep.pl y)), .int .i64 (L Ep.w y)]) = y := by subst hL; exact fun y => (gK zf0 y _ rfl).2
   have hO : ∀ y : Ep, L zoe (.agg [.int .u8 (L Pl.a (L Ep.pl y)), .int .u8 (L Pl.b (L Ep.pl y)), .int .u8 (L Pl.c (L Ep.pl y)), .int .u8 (L Pl.d (L Ep.pl y)), .int .u16 (L Pl.p (L Ep.pl y)), .int .i64 (L Ep.w y)]) := by subst hL; exact fun y => (gK zf0 y _ rfl).1
   (cbv; try simp only [syT, true_and, and_true])
   simp only [hG, hO, true_and]
   refine ⟨fun hlt => ⟨?_, ?_, ?_, ⟨i + 1, ?_⟩⟩, fun hge => ?_⟩
   · (subst hL; subst hQ; simp only [L2, L3, std] at *; try simp only [syS, reduceCtorEq, Int.reduceToNat, Int.reduceAdd, Int.reduceSub] at *)
     omega
   · (subst hL; subst hQ; simp only [L2, L3, std] at *; try simp only [syS, reduceCtorEq, Int.reduceToNat, Int.reduceAdd, Int.reduceSub] at *)
     exact ha _ (by rw [zi0, zav (V := epV) (by have : zcm l = l.length := rfl; omega)]; exact List.getElem_mem _)
   · (subst hL; subst hQ; simp only [L2, L3, std] at *; try simp only [syS, reduceCtorEq, Int.reduceToNat, Int.reduceAdd, Int.reduceSub] at *)
     have : zcm l = l.length := rfl
     have : l.length <= 1000000 := hz
     omega
   · (cbv; try simp only [syT, true_and, and_true])
     try simp only [hG]
     (subst hL; subst hQ; simp only [L2, L3, std] at *; try simp only [syS, reduceCtorEq, Int.reduceToNat, Int.reduceAdd, Int.reduceSub] at *)
     have : zcm l = l.length := rfl
     have : l.length <= 1000000 := hz
     exact ⟨fun q j hq hj => zp9 (fun q => zib (zi0 l q)) hq hj, by omega, by omega, by omega⟩
   · (subst hL; subst hQ; simp only [L2, L3, std] at *; try simp only [syS, reduceCtorEq, Int.reduceToNat, Int.reduceAdd, Int.reduceSub] at *)
     have : zcm l = l.length := rfl
     obtain ⟨k1, k2⟩ := zk7 (V := epV) (val := zib) (l := l) (n := i) (by omega)
     refine ⟨⟨k2, ?_⟩, zra ?_⟩
     · show List.length _ <= 1000000
       have k1 : rdL (.lst 4 i fun q j => cv1 std (zib (zi0 l q)) j) = l.map zib := k1
       rw [k1, List.length_map]; exact hz
     · exact (congrArg zdq k1).symm
def zj9 (x : Ls) : CV := zdq [zjx x.n, zjx (plB x.pl), zum x.rs]
def zjg (x : Cl) : CV := zdq [zjx x.n, zwf x.es]
def zye (x : Ls) : Prop := zzn x.pl /\ zil x.rs
def zz3 (x : Cl) : Prop := zil x.es /\ yel x.es
def yd1 (l : List Ls) : CV := zp7 zj9 l
def yf1 (l : List Cl) : CV := zp7 zjg l
def yl3 (l : List Ls) : Prop := zzt zye l
def yln (l : List Cl) : Prop := zzt zz3 l
theorem yvs (l : List Rt) : ymu (.lst 4 (zcm l) fun i => rtC std (zbk l i)) = l := (zc7 zjk l).2
theorem yw1 (l : List Rt) : yna (.lst 4 (zcm l) fun i => rtC std (zbk l i)) := (zc7 zjk l).1
theorem yms (l : List Ep) : zse (.lst 6 (zcm l) fun i => epC std (zi0 l i)) = l := (zc7 zf0 l).2
theorem yn9 (l : List Ep) : zss (.lst 6 (zcm l) fun i => epC std (zi0 l i)) := (zc7 zf0 l).1
theorem ymr (l : List Ls) : zsd (.lst 7 (zcm l) fun i => lsC std (zmb l i)) = l := (zc7 zd0 l).2
theorem yn8 (l : List Ls) : zsr (.lst 7 (zcm l) fun i => lsC std (zmb l i)) := (zc7 zd0 l).1
theorem ybs (l : List Cl) : zkw (.lst 2 (zcm l) fun i => clC std (zl3 l i)) = l := (zc7 zd1 l).2
theorem ycj (l : List Cl) : zl1 (.lst 2 (zcm l) fun i => clC std (zl3 l i)) := (zc7 zd1 l).1
theorem zon : zaz Tryz.prog (zrq 87 zj5 zcw zye zj9 std) := by
 intro xs p r h hp
 dsimp only [zrq] at h |-
 split at h <;> cases h
 try simp only [L2, L3, std] at hp |-
 rename_i x
 refine zws zd0 hp.1 ?_
 have hp := hp.2
 show za9 _ _ _ (cvA std (zj9 (rdG lsV x)))
 have hp : zye (rdG lsV x) := hp
 generalize rdG lsV x = y at hp |-
 refine za5 (T := tt) (S := fun L => zam [zwx L, zfr L, zpd L, zjv 118 119 yna ymu ykn zum L]) (lo := fun _ => noA std) (lb := noA) 5 (fn := Tryz.f87) (xs := fun L => [.agg [.str (L Ls.n y), .int .u8 (L Pl.a (L Ls.pl y)), .int .u8 (L Pl.b (L Ls.pl y)), .int .u8 (L Pl.c (L Ls.pl y)), .int .u8 (L Pl.d (L Ls.pl y)), .int .u16 (L Pl.p (L Ls.pl y)), yig L (L Ls.rs y)]]) rfl rfl (by kernel_rfl) (by kernel_rfl) rfl zab (za2 ⟨zjw, zca, znk, ztm zxp, trivial⟩) (by kernel_rfl) ?_
 intro L P' Q' hL hP hQ
 (cbv; try simp only [syT, true_and, and_true])
 (subst hL; subst hQ; simp only [L2, L3, std] at *; try simp only [syS, reduceCtorEq, Int.reduceToNat, Int.reduceAdd, Int.reduceSub] at *)
 simp only [yvs]
 obtain ⟨k1, k2⟩ := zj0 [zjx y.n, zjx (plB y.pl), zum y.rs] (v := zj9 y) (n := 3) rfl rfl (Nat.le_of_ble_eq_true rfl) rfl
 exact ⟨hp.1, ⟨yw1 _, hp.2, fun _ _ => trivial⟩, k1, k2 rfl⟩
theorem zrb : zaz Tryz.prog (zrq 89 zhz zhu zz3 zjg std) := by
 intro xs p r h hp
 dsimp only [zrq] at h |-
 split at h <;> cases h
 try simp only [L2, L3, std] at hp |-
 rename_i x
 refine zws zd1 hp.1 ?_
 have hp := hp.2
 show za9 _ _ _ (cvA std (zjg (rdG clV x)))
 have hp : zz3 (rdG clV x) := hp
 generalize rdG clV x = y at hp |-
 refine za5 (T := tt) (S := fun L => zam [zwx L, zfr L, zjv 120 121 zss zse yel zwf L]) (lo := fun _ => noA std) (lb := noA) 5 (fn := Tryz.f89) (xs := fun L => [.agg [.str (L Cl.n y), zt0 L (L Cl.es y)]]) rfl rfl (by kernel_rfl) (by kernel_rfl) rfl zab (za2 ⟨zjw, zca, zto zp5, trivial⟩) (by kernel_rfl) ?_
 intro L P' Q' hL hP hQ
 (cbv; try simp only [syT, true_and, and_true])
 (subst hL; subst hQ; simp only [L2, L3, std] at *; try simp only [syS, reduceCtorEq, Int.reduceToNat, Int.reduceAdd, Int.reduceSub] at *)
 simp only [yms]
 obtain ⟨k1, k2⟩ := zj0 [zjx y.n, zwf y.es] (v := zjg y) (n := 2) rfl rfl (Nat.le_of_ble_eq_true rfl) rfl
 exact ⟨⟨yn9 _, hp.1, hp.2⟩, k1, k2 rfl⟩
theorem ztn (ih : zaz Tryz.prog (zrq 87 zj5 zcw zye zj9 std)) : zaz Tryz.prog (zjv 86 87 zsr zsd yl3 yd1 std) := by
 intro xs p r h hp
 unfold zjv at h
 simp only at h
 split at h
 rotate_left
 · cases h
 rename_i x k
 cases hk : zap k 87 with
 | false => rw [hk] at h; cases h
 | true =>
 rw [hk] at h
 obtain rfl : k = 87 := of_decide_eq_true hk
 cases h
 obtain ⟨ho, hz, ha⟩ := hp
 refine zhe zd0 ho ?_
 have hz : zil (rdW lsV x) := hz
 have ha : zzt zye (rdW lsV x) := ha
 show za9 _ _ _ (cvA std (zp7 zj9 (rdW lsV x)))
 generalize rdW lsV x = l at hz ha |-
 refine za5 (T := tt) (S := fun L => zam [zrq 87 zj5 zcw zye zj9 L, zfr L]) (lo := fun L => yjn L zmb zj9 l) (lb := noA) 5 (fn := Tryz.f86) (xs := fun L => [zsz L l, .fn 87 [] []]) rfl rfl (by kernel_rfl) (by kernel_rfl) rfl zab
   (za2 ⟨ih, zca, trivial⟩) (by kernel_rfl) ?_
 intro L P' Q' hL hP hQ
 (cbv; try simp only [syT, true_and, and_true])
 refine ⟨⟨0, ?_⟩, fun i hi => ?_⟩
 · (cbv; try simp only [syT, true_and, and_true])
   (subst hL; subst hQ; simp only [L2, L3, std] at *; try simp only [syS, reduceCtorEq, Int.reduceToNat, Int.reduceAdd, Int.reduceSub] at *)
   exact Nat.zero_le _
 · cbv at hi
   have hG : ∀ y : Ls, L zcw (.agg [.str (L Ls.n y), .int .u8 (L Pl.a (L Ls.pl y)), .int .u8 (L Pl.b (L Ls.pl y)), .int .u8 (L Pl.c (L Ls.pl y)), .int .u8 (L Pl.d (L Ls.pl y)), .int .u16 (L Pl.p (L Ls.pl y)), .lst 4 (L zcm (L Ls.rs y)) (fun i => rtC L (L (L zbk (L Ls.rs y)) i))]) = y := by subst hL; exact fun y => (gK zd0 y _ rfl).2
   have hO : ∀ y : Ls, L zj5 (.agg [.str (L Ls.n y), .int .u8 (L Pl.a (L Ls.pl y)), .int .u8 (L Pl.b (L Ls.pl y)), .int .u8 (L Pl.c (L Ls.pl y)), .int .u8 (L Pl.d (L Ls.pl y)), .int .u16 (L Pl.p (L Ls.pl y)), .lst 4 (L zcm (L Ls.rs y)) (fun i => rtC L (L (L zbk (L Ls.rs y)) i))]) := by subst hL; exact fun y => (gK zd0 y _ rfl).1
   (cbv; try simp only [syT, true_and, and_true])
   simp only [hG, hO, true_and]
   refine ⟨fun hlt => ⟨?_, ?_, ?_, ⟨i + 1, ?_⟩⟩, fun hge => ?_⟩
   · (subst hL; subst hQ; simp only [L2, L3, std] at *; try simp only [syS, reduceCtorEq, Int.reduceToNat, Int.reduceAdd, Int.reduceSub] at *)
     omega
   · (subst hL; subst hQ; simp only [L2, L3, std] at *; try simp only [syS, reduceCtorEq, Int.reduceToNat, Int.reduceAdd, Int.reduceSub] at *)
     exact ha _ (by rw [zmb, zav (V := lsV) (by have : zcm l = l.length := rfl; omega)]; exact List.getElem_mem _)
   · (subst hL; subst hQ; simp only [L2, L3, std] at *; try simp only [syS, reduceCtorEq, Int.reduceToNat, Int.reduceAdd, Int.reduceSub] at *)
     have : zcm l = l.length := rfl
     have : l.length <= 1000000 := hz
     omega
   · (cbv; try simp only [syT, true_and, and_true])
     try simp only [hG]
     (subst hL; subst hQ; simp only [L2, L3, std] at *; try simp only [syS, reduceCtorEq, Int.reduceToNat, Int.reduceAdd, Int.reduceSub] at *)
     have : zcm l = l.length := rfl
     have : l.length <= 1000000 := hz
     exact ⟨fun q j hq hj => zp9 (fun q => zj9 (zmb l q)) hq hj, by omega, by omega, by omega⟩
   · (subst hL; subst hQ; simp only [L2, L3, std] at *; try simp only [syS, reduceCtorEq, Int.reduceToNat, Int.reduceAdd, Int.reduceSub] at *)
     have : zcm l = l.length := rfl
     obtain ⟨k1, k2⟩ := zk7 (V := lsV) (val := zj9) (l := l) (n := i) (by omega)
     refine ⟨⟨k2, ?_⟩, zra ?_⟩
     · show List.length _ <= 1000000
       have k1 : rdL (.lst 4 i fun q j => cv1 std (zj9 (zmb l q)) j) = l.map zj9 := k1
       rw [k1, List.length_map]; exact hz
     · exact (congrArg zdq k1).symm
theorem ztp (ih : zaz Tryz.prog (zrq 89 zhz zhu zz3 zjg std)) : zaz Tryz.prog (zjv 88 89 zl1 zkw yln yf1 std) := by
 intro xs p r h hp
 unfold zjv at h
 simp only at h
 split at h
 rotate_left
 · cases h
 rename_i x k
 cases hk : zap k 89 with
 | false => rw [hk] at h; cases h
 | true =>
 rw [hk] at h
 obtain rfl : k = 89 := of_decide_eq_true hk
 cases h
 obtain ⟨ho, hz, ha⟩ := hp
 refine zhe zd1 ho ?_
 have hz : zil (rdW clV x) := hz
 have ha : zzt zz3 (rdW clV x) := ha
 show za9 _ _ _ (cvA std (zp7 zjg (rdW clV x)))
 generalize rdW clV x = l at hz ha |-
 refine za5 (T := tt) (S := fun L => zam [zrq 89 zhz zhu zz3 zjg L, zfr L]) (lo := fun L => yjn L zl3 zjg l) (lb := noA) 5 (fn := Tryz.f88) (xs := fun L => [zom L l, .fn 89 [] []]) rfl rfl (by kernel_rfl) (by kernel_rfl) rfl zab
   (za2 ⟨ih, zca, trivial⟩) (by kernel_rfl) ?_
 intro L P' Q' hL hP hQ
 (cbv; try simp only [syT, true_and, and_true])
 refine ⟨⟨0, ?_⟩, fun i hi => ?_⟩
 · (cbv; try simp only [syT, true_and, and_true])
   (subst hL; subst hQ; simp only [L2, L3, std] at *; try simp only [syS, reduceCtorEq, Int.reduceToNat, Int.reduceAdd, Int.reduceSub] at *)
   exact Nat.zero_le _
 · cbv at hi
   have hG : ∀ y : Cl, L zhu (.agg [.str (L Cl.n y), .lst 6 (L zcm (L Cl.es y)) (fun i => epC L (L (L zi0 (L Cl.es y)) i))]) = y := by subst hL; exact fun y => (gK zd1 y _ rfl).2
   have hO : ∀ y : Cl, L zhz (.agg [.str (L Cl.n y), .lst 6 (L zcm (L Cl.es y)) (fun i => epC L (L (L zi0 (L Cl.es y)) i))]) := by subst hL; exact fun y => (gK zd1 y _ rfl).1
   (cbv; try simp only [syT, true_and, and_true])
   simp only [hG, hO, true_and]
   refine ⟨fun hlt => ⟨?_, ?_, ?_, ⟨i + 1, ?_⟩⟩, fun hge => ?_⟩
   · (subst hL; subst hQ; simp only [L2, L3, std] at *; try simp only [syS, reduceCtorEq, Int.reduceToNat, Int.reduceAdd, Int.reduceSub] at *)
     omega
   · (subst hL; subst hQ; simp only [L2, L3, std] at *; try simp only [syS, reduceCtorEq, Int.reduceToNat, Int.reduceAdd, Int.reduceSub] at *)
     exact ha _ (by rw [zl3, zav (V := clV) (by have : zcm l = l.length := rfl; omega)]; exact List.getElem_mem _)
   · (subst hL; subst hQ; simp only [L2, L3, std] at *; try simp only [syS, reduceCtorEq, Int.reduceToNat, Int.reduceAdd, Int.reduceSub] at *)
     have : zcm l = l.length := rfl
     have : l.length <= 1000000 := hz
     omega
   · (cbv; try simp only [syT, true_and, and_true])
     try simp only [hG]
     (subst hL; subst hQ; simp only [L2, L3, std] at *; try simp only [syS, reduceCtorEq, Int.reduceToNat, Int.reduceAdd, Int.reduceSub] at *)
     have : zcm l = l.length := rfl
     have : l.length <= 1000000 := hz
     exact ⟨fun q j hq hj => zp9 (fun q => zjg (zl3 l q)) hq hj, by omega, by omega, by omega⟩
   · (subst hL; subst hQ; simp only [L2, L3, std] at *; try simp only [syS, reduceCtorEq, Int.reduceToNat, Int.reduceAdd, Int.reduceSub] at *)
     have : zcm l = l.length := rfl
     obtain ⟨k1, k2⟩ := zk7 (V := clV) (val := zjg) (l := l) (n := i) (by omega)
     refine ⟨⟨k2, ?_⟩, zra ?_⟩
     · show List.length _ <= 1000000
       have k1 : rdL (.lst 4 i fun q j => cv1 std (zjg (zl3 l q)) j) = l.map zjg := k1
       rw [k1, List.length_map]; exact hz
     · exact (congrArg zdq k1).symm
end Sy
end Go.Proofs.YtogpolfhcbgcbaaGreatDoor
namespace Go.Proofs.YtogpolfhcbgcbaaGreatDoor
namespace Sy
open Go Go.RowKit
set_option maxRecDepth 100000
set_option linter.unusedSimpArgs false
set_option linter.unusedVariables false
def prS {α : Type} (f : Nat) (ok : AV -> Prop) (rd : AV -> α) (p : α -> Bool) (pre : α -> Prop) (L : za7) : zbf := (f, fun xs => match xs with
 | [x] => some (L ok x /\ L pre (L rd x), .bool (L p (L rd x)))
 | _ => none)
def zzo {α : Type} (f g : Nat) (ok : AV -> Prop) (rd : AV -> List α) (idx : List α -> Int) (pre : List α -> Prop) (L : za7) : zbf := (f, fun xs => match xs with
 | [x, .fn k [] []] => match zap k g with
   | true => some (L ok x /\ L zil (L rd x) /\ L pre (L rd x), .int .i64 (L idx (L rd x)))
   | false => none
 | _ => none)
def zzs {α : Type} (f g : Nat) (ok : AV -> Prop) (rd : AV -> List α) (any : List α -> Bool) (pre : List α -> Prop) (L : za7) : zbf := (f, fun xs => match xs with
 | [x, .fn k [] []] => match zap k g with
   | true => some (L ok x /\ L zil (L rd x) /\ L pre (L rd x), .bool (L any (L rd x)))
   | false => none
 | _ => none)
def ixA {α : Type} (L : za7) (none : List α -> Nat -> Prop) (l : List α) : Nat -> St -> Option Ann := fun id st => match id with
 | 0 => some ⟨Nat, fun i => [(8, .int .i64 (L zac i))], fun i => [], [0, 1, 6, 7], [],
     fun i => L2 L none l i, fun i => L2 L (fun (l : List α) (i : Nat) => l.length - i) l i⟩
 | _ => Option.none
theorem zw0 (a b : Int) : ile a b = decide (a <= b) := by simp [ile]
def zh6 (x : Ls) : Bool := decide (8 < x.rs.length)
def zj7 (x : Cl) : Bool := decide (8 < x.es.length)
def zz6 (x : Ep) : Bool := decide (x.w < 0)
def zzr (x : Cl) : Bool := x.es.any zz6
def zxy (x : Ls) : Prop := True
def zxz (x : Cl) : Prop := True
def zy0 (x : Ep) : Prop := True
def zsj (x : Cl) : Prop := zil x.es
theorem ynl : zaz Tryz.prog (prS 104 zj5 zcw zh6 zxy std) := by
 intro xs p r h hp
 dsimp only [prS] at h |-
 split at h <;> cases h
 try simp only [L2, L3, std] at hp |-
 rename_i x
 refine zws zd0 hp.1 ?_
 have hp := hp.2
 show za9 _ _ _ (.bool (zh6 (rdG lsV x)))
 have hp : zxy (rdG lsV x) := hp
 generalize rdG lsV x = y at hp |-
 refine za5 (T := tt) (S := noS) (lo := fun _ => noA std) (lb := noA) 5 (fn := Tryz.f104) (xs := fun L => [.agg [.str (L Ls.n y), .int .u8 (L Pl.a (L Ls.pl y)), .int .u8 (L Pl.b (L Ls.pl y)), .int .u8 (L Pl.c (L Ls.pl y)), .int .u8 (L Pl.d (L Ls.pl y)), .int .u16 (L Pl.p (L Ls.pl y)), yig L (L Ls.rs y)]]) rfl rfl (by kernel_rfl) (by kernel_rfl) rfl zab (zc4 _) (by kernel_rfl) ?_
 intro L P' Q' hL hP hQ
 (cbv; try simp only [syT, true_and, and_true])
 (subst hL; subst hQ; simp only [L2, L3, std] at *; try simp only [syS, reduceCtorEq, Int.reduceToNat, Int.reduceAdd, Int.reduceSub] at *)
 show ilt 8 ((y.rs.length : Nat) : Int) = _
 simp only [ilt, zh6]
 congr 1
 simp
 omega
theorem ynm : zaz Tryz.prog (prS 106 zhz zhu zj7 zxz std) := by
 intro xs p r h hp
 dsimp only [prS] at h |-
 split at h <;> cases h
 try simp only [L2, L3, std] at hp |-
 rename_i x
 refine zws zd1 hp.1 ?_
 have hp := hp.2
 show za9 _ _ _ (.bool (zj7 (rdG clV x)))
 have hp : zxz (rdG clV x) := hp
 generalize rdG clV x = y at hp |-
 refine za5 (T := tt) (S := noS) (lo := fun _ => noA std) (lb := noA) 5 (fn := Tryz.f106) (xs := fun L => [.agg [.str (L Cl.n y), zt0 L (L Cl.es y)]]) rfl rfl (by kernel_rfl) (by kernel_rfl) rfl zab (zc4 _) (by kernel_rfl) ?_
 intro L P' Q' hL hP hQ
 (cbv; try simp only [syT, true_and, and_true])
 (subst hL; subst hQ; simp only [L2, L3, std] at *; try simp only [syS, reduceCtorEq, Int.reduceToNat, Int.reduceAdd, Int.reduceSub] at *)
 show ilt 8 ((y.es.length : Nat) : Int) = _
 simp only [ilt, zj7]
 congr 1
 simp
 omega
theorem yq8 : zaz Tryz.prog (prS 109 zoe zo4 zz6 zy0 std) := by
 intro xs p r h hp
 dsimp only [prS] at h |-
 split at h <;> cases h
 try simp only [L2, L3, std] at hp |-
 rename_i x
 refine zws zf0 hp.1 ?_
 have hp := hp.2
 show za9 _ _ _ (.bool (zz6 (rdG epV x)))
 have hp : zy0 (rdG epV x) := hp
 generalize rdG epV x = y at hp |-
 refine za5 (T := tt) (S := noS) (lo := fun _ => noA std) (lb := noA) 5 (fn := Tryz.f109) (xs := fun L => [.agg [.int .u8 (L Pl.a (L Ep.pl y)), .int .u8 (L Pl.b (L Ep.pl y)), .int .u8 (L Pl.c (L Ep.pl y)), .int .u8 (L Pl.d (L Ep.pl y)), .int .u16 (L Pl.p (L Ep.pl y)), .int .i64 (L Ep.w y)]]) rfl rfl (by kernel_rfl) (by kernel_rfl) rfl zab (zc4 _) (by kernel_rfl) ?_
 intro L P' Q' hL hP hQ
 (cbv; try simp only [syT, true_and, and_true])
 (subst hL; subst hQ; simp only [L2, L3, std] at *; try simp only [syS, reduceCtorEq, Int.reduceToNat, Int.reduceAdd, Int.reduceSub] at *)
 simp [ilt, zz6]
def yt2 (l : List Ls) : Int := zgs zh6 l
def yk5 (l : List Ls) : Bool := l.any zh6
def ysd (l : List Ls) (i : Nat) : Prop := zmd zh6 l i
def zmt (l : List Ls) : Prop := zzt zxy l
theorem zym (ih : zaz Tryz.prog (prS 104 zj5 zcw zh6 zxy std)) : zaz Tryz.prog (zzo 130 104 zsr zsd yt2 zmt std) := by
 intro xs p r h hp
 unfold zzo at h
 simp only at h
 split at h
 rotate_left
 · cases h
 rename_i x k
 cases hk : zap k 104 with
 | false => rw [hk] at h; cases h
 | true =>
 rw [hk] at h
 obtain rfl : k = 104 := of_decide_eq_true hk
 cases h
 obtain ⟨ho, hz, ha⟩ := hp
 refine zhe zd0 ho ?_
 have hz : zil (rdW lsV x) := hz
 have ha : zmt (rdW lsV x) := ha
 show za9 _ _ _ (.int .i64 (zgs zh6 (rdW lsV x)))
 generalize rdW lsV x = l at hz ha |-
 refine za5 (T := tt) (S := fun L => zam [prS 104 zj5 zcw zh6 zxy L]) (lo := fun L => ixA L ysd l) (lb := noA) 5 (fn := Tryz.f130) (xs := fun L => [zsz L l, .fn 104 [] []]) rfl rfl (by kernel_rfl) (by kernel_rfl) rfl zab
   (za2 ⟨ih, trivial⟩) (by kernel_rfl) ?_
 intro L P' Q' hL hP hQ
 (cbv; try simp only [syT, true_and, and_true])
 refine ⟨⟨0, ?_⟩, fun i hi => ?_⟩
 · (cbv; try simp only [syT, true_and, and_true])
   (subst hL; subst hQ; simp only [L2, L3, std] at *; try simp only [syS, reduceCtorEq, Int.reduceToNat, Int.reduceAdd, Int.reduceSub] at *)
   exact zl5 _ _
 · cbv at hi
   have hG : ∀ y : Ls, L zcw (.agg [.str (L Ls.n y), .int .u8 (L Pl.a (L Ls.pl y)), .int .u8 (L Pl.b (L Ls.pl y)), .int .u8 (L Pl.c (L Ls.pl y)), .int .u8 (L Pl.d (L Ls.pl y)), .int .u16 (L Pl.p (L Ls.pl y)), .lst 4 (L zcm (L Ls.rs y)) (fun i => rtC L (L (L zbk (L Ls.rs y)) i))]) = y := by subst hL; exact fun y => (gK zd0 y _ rfl).2
   have hO : ∀ y : Ls, L zj5 (.agg [.str (L Ls.n y), .int .u8 (L Pl.a (L Ls.pl y)), .int .u8 (L Pl.b (L Ls.pl y)), .int .u8 (L Pl.c (L Ls.pl y)), .int .u8 (L Pl.d (L Ls.pl y)), .int .u16 (L Pl.p (L Ls.pl y)), .lst 4 (L zcm (L Ls.rs y)) (fun i => rtC L (L (L zbk (L Ls.rs y)) i))]) := by subst hL; exact fun y => (gK zd0 y _ rfl).1
   (cbv; try simp only [syT, true_and, and_true])
   simp only [hG, hO, true_and]
   have hw : zcm l = l.length := rfl
   have hz : l.length <= 1000000 := hz
   refine ⟨fun hlt => ⟨?_, ?_, fun hb => ?_, fun hb => ⟨i + 1, ?_⟩⟩, fun hge => ?_⟩
   · (subst hL; subst hQ; simp only [L2, L3, std] at *; try simp only [syS, reduceCtorEq, Int.reduceToNat, Int.reduceAdd, Int.reduceSub] at *)
     omega
   · (subst hL; subst hQ; simp only [L2, L3, std] at *; try simp only [syS, reduceCtorEq, Int.reduceToNat, Int.reduceAdd, Int.reduceSub] at *)
     exact ha _ (by rw [zmb, zav (V := lsV) (by omega)]; exact List.getElem_mem _)
   · (subst hL; subst hQ; simp only [L2, L3, std] at *; try simp only [syS, reduceCtorEq, Int.reduceToNat, Int.reduceAdd, Int.reduceSub] at *)
     exact (zg4 (V := lsV) hi (by omega) hb).symm
   · (cbv; try simp only [syT, true_and, and_true])
     try simp only [hG]
     (subst hL; subst hQ; simp only [L2, L3, std] at *; try simp only [syS, reduceCtorEq, Int.reduceToNat, Int.reduceAdd, Int.reduceSub] at *)
     exact ⟨by omega, zew (V := lsV) hi (by omega) hb, by omega⟩
   · (subst hL; subst hQ; simp only [L2, L3, std] at *; try simp only [syS, reduceCtorEq, Int.reduceToNat, Int.reduceAdd, Int.reduceSub] at *)
     exact (zg5 hi (by omega)).symm
theorem zzg (ih : zaz Tryz.prog (prS 104 zj5 zcw zh6 zxy std)) : zaz Tryz.prog (zzs 103 104 zsr zsd yk5 zmt std) := by
 intro xs p r h hp
 unfold zzs at h
 simp only at h
 split at h
 rotate_left
 · cases h
 rename_i x k
 cases hk : zap k 104 with
 | false => rw [hk] at h; cases h
 | true =>
 rw [hk] at h
 obtain rfl : k = 104 := of_decide_eq_true hk
 cases h
 obtain ⟨ho, hz, ha⟩ := hp
 refine zhe zd0 ho ?_
 have hz : zil (rdW lsV x) := hz
 have ha : zmt (rdW lsV x) := ha
 show za9 _ _ _ (.bool (yk5 (rdW lsV x)))
 generalize rdW lsV x = l at hz ha |-
 refine za5 (T := tt) (S := fun L => zam [zzo 130 104 zsr zsd yt2 zmt L]) (lo := fun _ => noA std) (lb := noA) 5 (fn := Tryz.f103) (xs := fun L => [zsz L l, .fn 104 [] []]) rfl rfl (by kernel_rfl) (by kernel_rfl) rfl zab
   (za2 ⟨zym ih, trivial⟩) (by kernel_rfl) ?_
 intro L P' Q' hL hP hQ
 (cbv; try simp only [syT, true_and, and_true])
 (subst hL; subst hQ; simp only [L2, L3, std] at *; try simp only [syS, reduceCtorEq, Int.reduceToNat, Int.reduceAdd, Int.reduceSub] at *)
 simp only [ymr]
 refine ⟨⟨yn8 _, hz, ha⟩, ?_⟩
 have := zgr zh6 l
 rw [zw0, show yk5 l = l.any zh6 from rfl, <- this]; rfl
def yt3 (l : List Cl) : Int := zgs zj7 l
def yk6 (l : List Cl) : Bool := l.any zj7
def yse (l : List Cl) (i : Nat) : Prop := zmd zj7 l i
def zmu (l : List Cl) : Prop := zzt zxz l
theorem zyn (ih : zaz Tryz.prog (prS 106 zhz zhu zj7 zxz std)) : zaz Tryz.prog (zzo 131 106 zl1 zkw yt3 zmu std) := by
 intro xs p r h hp
 unfold zzo at h
 simp only at h
 split at h
 rotate_left
 · cases h
 rename_i x k
 cases hk : zap k 106 with
 | false => rw [hk] at h; cases h
 | true =>
 rw [hk] at h
 obtain rfl : k = 106 := of_decide_eq_true hk
 cases h
 obtain ⟨ho, hz, ha⟩ := hp
 refine zhe zd1 ho ?_
 have hz : zil (rdW clV x) := hz
 have ha : zmu (rdW clV x) := ha
 show za9 _ _ _ (.int .i64 (zgs zj7 (rdW clV x)))
 generalize rdW clV x = l at hz ha |-
 refine za5 (T := tt) (S := fun L => zam [prS 106 zhz zhu zj7 zxz L]) (lo := fun L => ixA L yse l) (lb := noA) 5 (fn := Tryz.f131) (xs := fun L => [zom L l, .fn 106 [] []]) rfl rfl (by kernel_rfl) (by kernel_rfl) rfl zab
   (za2 ⟨ih, trivial⟩) (by kernel_rfl) ?_
 intro L P' Q' hL hP hQ
 (cbv; try simp only [syT, true_and, and_true])
 refine ⟨⟨0, ?_⟩, fun i hi => ?_⟩
 · (cbv; try simp only [syT, true_and, and_true])
   (subst hL; subst hQ; simp only [L2, L3, std] at *; try simp only [syS, reduceCtorEq, Int.reduceToNat, Int.reduceAdd, Int.reduceSub] at *)
   exact zl5 _ _
 · cbv at hi
   have hG : ∀ y : Cl, L zhu (.agg [.str (L Cl.n y), .lst 6 (L zcm (L Cl.es y)) (fun i => epC L (L (L zi0 (L Cl.es y)) i))]) = y := by subst hL; exact fun y => (gK zd1 y _ rfl).2
   have hO : ∀ y : Cl, L zhz (.agg [.str (L Cl.n y), .lst 6 (L zcm (L Cl.es y)) (fun i => epC L (L (L zi0 (L Cl.es y)) i))]) := by subst hL; exact fun y => (gK zd1 y _ rfl).1
   (cbv; try simp only [syT, true_and, and_true])
   simp only [hG, hO, true_and]
   have hw : zcm l = l.length := rfl
   have hz : l.length <= 1000000 := hz
   refine ⟨fun hlt => ⟨?_, ?_, fun hb => ?_, fun hb => ⟨i + 1, ?_⟩⟩, fun hge => ?_⟩
   · (subst hL; subst hQ; simp only [L2, L3, std] at *; try simp only [syS, reduceCtorEq, Int.reduceToNat, Int.reduceAdd, Int.reduceSub] at *)
     omega
   · (subst hL; subst hQ; simp only [L2, L3, std] at *; try simp only [syS, reduceCtorEq, Int.reduceToNat, Int.reduceAdd, Int.reduceSub] at *)
     exact ha _ (by rw [zl3, zav (V := clV) (by omega)]; exact List.getElem_mem _)
   · (subst hL; subst hQ; simp only [L2, L3, std] at *; try simp only [syS, reduceCtorEq, Int.reduceToNat, Int.reduceAdd, Int.reduceSub] at *)
     exact (zg4 (V := clV) hi (by omega) hb).symm
   · (cbv; try simp only [syT, true_and, and_true])
     try simp only [hG]
     (subst hL; subst hQ; simp only [L2, L3, std] at *; try simp only [syS, reduceCtorEq, Int.reduceToNat, Int.reduceAdd, Int.reduceSub] at *)
     exact ⟨by omega, zew (V := clV) hi (by omega) hb, by omega⟩
   · (subst hL; subst hQ; simp only [L2, L3, std] at *; try simp only [syS, reduceCtorEq, Int.reduceToNat, Int.reduceAdd, Int.reduceSub] at *)
     exact (zg5 hi (by omega)).symm
theorem zzh (ih : zaz Tryz.prog (prS 106 zhz zhu zj7 zxz std)) : zaz Tryz.prog (zzs 105 106 zl1 zkw yk6 zmu std) := by
 intro xs p r h hp
 unfold zzs at h
 simp only at h
 split at h
 rotate_left
 · cases h
 rename_i x k
 cases hk : zap k 106 with
 | false => rw [hk] at h; cases h
 | true =>
 rw [hk] at h
 obtain rfl : k = 106 := of_decide_eq_true hk
 cases h
 obtain ⟨ho, hz, ha⟩ := hp
 refine zhe zd1 ho ?_
 have hz : zil (rdW clV x) := hz
 have ha : zmu (rdW clV x) := ha
 show za9 _ _ _ (.bool (yk6 (rdW clV x)))
 generalize rdW clV x = l at hz ha |-
 refine za5 (T := tt) (S := fun L => zam [zzo 131 106 zl1 zkw yt3 zmu L]) (lo := fun _ => noA std) (lb := noA) 5 (fn := Tryz.f105) (xs := fun L => [zom L l, .fn 106 [] []]) rfl rfl (by kernel_rfl) (by kernel_rfl) rfl zab
   (za2 ⟨zyn ih, trivial⟩) (by kernel_rfl) ?_
 intro L P' Q' hL hP hQ
 (cbv; try simp only [syT, true_and, and_true])
 (subst hL; subst hQ; simp only [L2, L3, std] at *; try simp only [syS, reduceCtorEq, Int.reduceToNat, Int.reduceAdd, Int.reduceSub] at *)
 simp only [ybs]
 refine ⟨⟨ycj _, hz, ha⟩, ?_⟩
 have := zgr zj7 l
 rw [zw0, show yk6 l = l.any zj7 from rfl, <- this]; rfl
def yt4 (l : List Ep) : Int := zgs zz6 l
def yk7 (l : List Ep) : Bool := l.any zz6
def ysf (l : List Ep) (i : Nat) : Prop := zmd zz6 l i
def zmv (l : List Ep) : Prop := zzt zy0 l
theorem zyo (ih : zaz Tryz.prog (prS 109 zoe zo4 zz6 zy0 std)) : zaz Tryz.prog (zzo 132 109 zss zse yt4 zmv std) := by
 intro xs p r h hp
 unfold zzo at h
 simp only at h
 split at h
 rotate_left
 · cases h
 rename_i x k
 cases hk : zap k 109 with
 | false => rw [hk] at h; cases h
 | true =>
 rw [hk] at h
 obtain rfl : k = 109 := of_decide_eq_true hk
 cases h
 obtain ⟨ho, hz, ha⟩ := hp
 refine zhe zf0 ho ?_
 have hz : zil (rdW epV x) := hz
 have ha : zmv (rdW epV x) := ha
 show za9 _ _ _ (.int .i64 (zgs zz6 (rdW epV x)))
 generalize rdW epV x = l at hz ha |-
 refine za5 (T := tt) (S := fun L => zam [prS 109 zoe zo4 zz6 zy0 L]) (lo := fun L => ixA L ysf l) (lb := noA) 5 (fn := Tryz.f132) (xs := fun L => [zt0 L l, .fn 109 [] []]) rfl rfl (by kernel_rfl) (by kernel_rfl) rfl zab
   (za2 ⟨ih, trivial⟩) (by kernel_rfl) ?_
 intro L P' Q' hL hP hQ
 (cbv; try simp only [syT, true_and, and_true])
 refine ⟨⟨0, ?_⟩, fun i hi => ?_⟩
 · (cbv; try simp only [syT, true_and, and_true])
   (subst hL; subst hQ; simp only [L2, L3, std] at *; try simp only [syS, reduceCtorEq, Int.reduceToNat, Int.reduceAdd, Int.reduceSub] at *)
   exact zl5 _ _
 · cbv at hi
   have hG : ∀ y : Ep, L zo4 (.agg [.int .u8 (L Pl.a (L Ep.pl y)), .int .u8 (L Pl.b (L Ep.pl y)), .int .u8 (L Pl.c (L Ep.pl y)), .int .u8 (L Pl.d (L Ep.pl y)), .int .u16 (L Pl.p (L Ep.pl y)), .int .i64 (L Ep.w y)]) = y := by subst hL; exact fun y => (gK zf0 y _ rfl).2
   have hO : ∀ y : Ep, L zoe (.agg [.int .u8 (L Pl.a (L Ep.pl y)), .int .u8 (L Pl.b (L Ep.pl y)), .int .u8 (L Pl.c (L Ep.pl y)), .int .u8 (L Pl.d (L Ep.pl y)), .int .u16 (L Pl.p (L Ep.pl y)), .int .i64 (L Ep.w y)]) := by subst hL; exact fun y => (gK zf0 y _ rfl).1
   (cbv; try simp only [syT, true_and, and_true])
   simp only [hG, hO, true_and]
   have hw : zcm l = l.length := rfl
   have hz : l.length <= 1000000 := hz
   refine ⟨fun hlt => ⟨?_, ?_, fun hb => ?_, fun hb => ⟨i + 1, ?_⟩⟩, fun hge => ?_⟩
   · (subst hL; subst hQ; simp only [L2, L3, std] at *; try simp only [syS, reduceCtorEq, Int.reduceToNat, Int.reduceAdd, Int.reduceSub] at *)
     omega
   · (subst hL; subst hQ; simp only [L2, L3, std] at *; try simp only [syS, reduceCtorEq, Int.reduceToNat, Int.reduceAdd, Int.reduceSub] at *)
     exact ha _ (by rw [zi0, zav (V := epV) (by omega)]; exact List.getElem_mem _)
   · (subst hL; subst hQ; simp only [L2, L3, std] at *; try simp only [syS, reduceCtorEq, Int.reduceToNat, Int.reduceAdd, Int.reduceSub] at *)
     exact (zg4 (V := epV) hi (by omega) hb).symm
   · (cbv; try simp only [syT, true_and, and_true])
     try simp only [hG]
     (subst hL; subst hQ; simp only [L2, L3, std] at *; try simp only [syS, reduceCtorEq, Int.reduceToNat, Int.reduceAdd, Int.reduceSub] at *)
     exact ⟨by omega, zew (V := epV) hi (by omega) hb, by omega⟩
   · (subst hL; subst hQ; simp only [L2, L3, std] at *; try simp only [syS, reduceCtorEq, Int.reduceToNat, Int.reduceAdd, Int.reduceSub] at *)
     exact (zg5 hi (by omega)).symm
theorem zzi (ih : zaz Tryz.prog (prS 109 zoe zo4 zz6 zy0 std)) : zaz Tryz.prog (zzs 108 109 zss zse yk7 zmv std) := by
 intro xs p r h hp
 unfold zzs at h
 simp only at h
 split at h
 rotate_left
 · cases h
 rename_i x k
 cases hk : zap k 109 with
 | false => rw [hk] at h; cases h
 | true =>
 rw [hk] at h
 obtain rfl : k = 109 := of_decide_eq_true hk
 cases h
 obtain ⟨ho, hz, ha⟩ := hp
 refine zhe zf0 ho ?_
 have hz : zil (rdW epV x) := hz
 have ha : zmv (rdW epV x) := ha
 show za9 _ _ _ (.bool (yk7 (rdW epV x)))
 generalize rdW epV x = l at hz ha |-
 refine za5 (T := tt) (S := fun L => zam [zzo 132 109 zss zse yt4 zmv L]) (lo := fun _ => noA std) (lb := noA) 5 (fn := Tryz.f108) (xs := fun L => [zt0 L l, .fn 109 [] []]) rfl rfl (by kernel_rfl) (by kernel_rfl) rfl zab
   (za2 ⟨zyo ih, trivial⟩) (by kernel_rfl) ?_
 intro L P' Q' hL hP hQ
 (cbv; try simp only [syT, true_and, and_true])
 (subst hL; subst hQ; simp only [L2, L3, std] at *; try simp only [syS, reduceCtorEq, Int.reduceToNat, Int.reduceAdd, Int.reduceSub] at *)
 simp only [yms]
 refine ⟨⟨yn9 _, hz, ha⟩, ?_⟩
 have := zgr zz6 l
 rw [zw0, show yk7 l = l.any zz6 from rfl, <- this]; rfl
theorem yq9 : zaz Tryz.prog (prS 107 zhz zhu zzr zsj std) := by
 intro xs p r h hp
 dsimp only [prS] at h |-
 split at h <;> cases h
 try simp only [L2, L3, std] at hp |-
 rename_i x
 refine zws zd1 hp.1 ?_
 have hp := hp.2
 show za9 _ _ _ (.bool (zzr (rdG clV x)))
 have hp : zsj (rdG clV x) := hp
 generalize rdG clV x = y at hp |-
 refine za5 (T := tt) (S := fun L => zam [zzs 108 109 zss zse yk7 zmv L]) (lo := fun _ => noA std) (lb := noA) 5 (fn := Tryz.f107) (xs := fun L => [.agg [.str (L Cl.n y), zt0 L (L Cl.es y)]]) rfl rfl (by kernel_rfl) (by kernel_rfl) rfl zab (za2 ⟨zzi yq8, trivial⟩) (by kernel_rfl) ?_
 intro L P' Q' hL hP hQ
 (cbv; try simp only [syT, true_and, and_true])
 (subst hL; subst hQ; simp only [L2, L3, std] at *; try simp only [syS, reduceCtorEq, Int.reduceToNat, Int.reduceAdd, Int.reduceSub] at *)
 simp only [yms]
 exact ⟨⟨yn9 _, hp, fun _ _ => trivial⟩, rfl⟩
def yt5 (l : List Cl) : Int := zgs zzr l
def yk8 (l : List Cl) : Bool := l.any zzr
def ysg (l : List Cl) (i : Nat) : Prop := zmd zzr l i
def zmw (l : List Cl) : Prop := zzt zsj l
theorem zyp (ih : zaz Tryz.prog (prS 107 zhz zhu zzr zsj std)) : zaz Tryz.prog (zzo 131 107 zl1 zkw yt5 zmw std) := by
 intro xs p r h hp
 unfold zzo at h
 simp only at h
 split at h
 rotate_left
 · cases h
 rename_i x k
 cases hk : zap k 107 with
 | false => rw [hk] at h; cases h
 | true =>
 rw [hk] at h
 obtain rfl : k = 107 := of_decide_eq_true hk
 cases h
 obtain ⟨ho, hz, ha⟩ := hp
 refine zhe zd1 ho ?_
 have hz : zil (rdW clV x) := hz
 have ha : zmw (rdW clV x) := ha
 show za9 _ _ _ (.int .i64 (zgs zzr (rdW clV x)))
 generalize rdW clV x = l at hz ha |-
 refine za5 (T := tt) (S := fun L => zam [prS 107 zhz zhu zzr zsj L]) (lo := fun L => ixA L ysg l) (lb := noA) 5 (fn := Tryz.f131) (xs := fun L => [zom L l, .fn 107 [] []]) rfl rfl (by kernel_rfl) (by kernel_rfl) rfl zab
   (za2 ⟨ih, trivial⟩) (by kernel_rfl) ?_
 intro L P' Q' hL hP hQ
 (cbv; try simp only [syT, true_and, and_true])
 refine ⟨⟨0, ?_⟩, fun i hi => ?_⟩
 · (cbv; try simp only [syT, true_and, and_true])
   (subst hL; subst hQ; simp only [L2, L3, std] at *; try simp only [syS, reduceCtorEq, Int.reduceToNat, Int.reduceAdd, Int.reduceSub] at *)
   exact zl5 _ _
 · cbv at hi
   have hG : ∀ y : Cl, L zhu (.agg [.str (L Cl.n y), .lst 6 (L zcm (L Cl.es y)) (fun i => epC L (L (L zi0 (L Cl.es y)) i))]) = y := by subst hL; exact fun y => (gK zd1 y _ rfl).2
   have hO : ∀ y : Cl, L zhz (.agg [.str (L Cl.n y), .lst 6 (L zcm (L Cl.es y)) (fun i => epC L (L (L zi0 (L Cl.es y)) i))]) := by subst hL; exact fun y => (gK zd1 y _ rfl).1
   (cbv; try simp only [syT, true_and, and_true])
   simp only [hG, hO, true_and]
   have hw : zcm l = l.length := rfl
   have hz : l.length <= 1000000 := hz
   refine ⟨fun hlt => ⟨?_, ?_, fun hb => ?_, fun hb => ⟨i + 1, ?_⟩⟩, fun hge => ?_⟩
   · (subst hL; subst hQ; simp only [L2, L3, std] at *; try simp only [syS, reduceCtorEq, Int.reduceToNat, Int.reduceAdd, Int.reduceSub] at *)
     omega
   · (subst hL; subst hQ; simp only [L2, L3, std] at *; try simp only [syS, reduceCtorEq, Int.reduceToNat, Int.reduceAdd, Int.reduceSub] at *)
     exact ha _ (by rw [zl3, zav (V := clV) (by omega)]; exact List.getElem_mem _)
   · (subst hL; subst hQ; simp only [L2, L3, std] at *; try simp only [syS, reduceCtorEq, Int.reduceToNat, Int.reduceAdd, Int.reduceSub] at *)
     exact (zg4 (V := clV) hi (by omega) hb).symm
   · (cbv; try simp only [syT, true_and, and_true])
     try simp only [hG]
     (subst hL; subst hQ; simp only [L2, L3, std] at *; try simp only [syS, reduceCtorEq, Int.reduceToNat, Int.reduceAdd, Int.reduceSub] at *)
     exact ⟨by omega, zew (V := clV) hi (by omega) hb, by omega⟩
   · (subst hL; subst hQ; simp only [L2, L3, std] at *; try simp only [syS, reduceCtorEq, Int.reduceToNat, Int.reduceAdd, Int.reduceSub] at *)
     exact (zg5 hi (by omega)).symm
theorem zzj (ih : zaz Tryz.prog (prS 107 zhz zhu zzr zsj std)) : zaz Tryz.prog (zzs 105 107 zl1 zkw yk8 zmw std) := by
 intro xs p r h hp
 unfold zzs at h
 simp only at h
 split at h
 rotate_left
 · cases h
 rename_i x k
 cases hk : zap k 107 with
 | false => rw [hk] at h; cases h
 | true =>
 rw [hk] at h
 obtain rfl : k = 107 := of_decide_eq_true hk
 cases h
 obtain ⟨ho, hz, ha⟩ := hp
 refine zhe zd1 ho ?_
 have hz : zil (rdW clV x) := hz
 have ha : zmw (rdW clV x) := ha
 show za9 _ _ _ (.bool (yk8 (rdW clV x)))
 generalize rdW clV x = l at hz ha |-
 refine za5 (T := tt) (S := fun L => zam [zzo 131 107 zl1 zkw yt5 zmw L]) (lo := fun _ => noA std) (lb := noA) 5 (fn := Tryz.f105) (xs := fun L => [zom L l, .fn 107 [] []]) rfl rfl (by kernel_rfl) (by kernel_rfl) rfl zab
   (za2 ⟨zyp ih, trivial⟩) (by kernel_rfl) ?_
 intro L P' Q' hL hP hQ
 (cbv; try simp only [syT, true_and, and_true])
 (subst hL; subst hQ; simp only [L2, L3, std] at *; try simp only [syS, reduceCtorEq, Int.reduceToNat, Int.reduceAdd, Int.reduceSub] at *)
 simp only [ybs]
 refine ⟨⟨ycj _, hz, ha⟩, ?_⟩
 have := zgr zzr l
 rw [zw0, show yk8 l = l.any zzr from rfl, <- this]; rfl
end Sy
end Go.Proofs.YtogpolfhcbgcbaaGreatDoor
namespace Go.Proofs.YtogpolfhcbgcbaaGreatDoor
namespace Sy
open Go Go.RowKit
set_option maxRecDepth 100000
set_option linter.unusedSimpArgs false
set_option linter.unusedVariables false
structure zub (v : CV) (a b : Nat) : Prop where
 wf : wfV v
 sz : sizeC v <= a
 tx : (zbv v).length <= b
theorem zub.up {v : CV} {a b a' b' : Nat} (h : zub v a b) (ha : a <= a') (hb : b <= b') : zub v a' b' := ⟨h.wf, by have := h.sz; omega, by have := h.tx; omega⟩
theorem zti {n : Int} (h : zcr n) : zub (zgy n) 1 11 := by
 refine ⟨?_, ?_, ?_⟩
 · rw [zgy, wfV, zuc]; exact ⟨h, by decide, trivial⟩
 · rw [zgy, zcq, zck]; omega
 · rw [zgy, zan, if_pos rfl, List.length_append]
   have := ziy h
   have e : (zgf 1).length = 1 := rfl
   omega
theorem zhc {s : List UInt8} {m : Nat} (h : s.length <= m) (hm : m <= 1000000) : zub (zjx s) 1 (11 + m) := by
 refine ⟨?_, ?_, ?_⟩
 · rw [zjx, wfV, zuc]; exact ⟨⟨by decide, by decide⟩, by omega, trivial⟩
 · rw [zjx, zcq, zck]; omega
 · rw [zjx, zan, if_neg (by decide), if_pos rfl, List.length_append, List.length_append]
   have := ziy (n := (s.length : Int)) ⟨by omega, by omega⟩
   have e : (zgf 2).length = 1 := rfl
   omega
theorem yla {a b : Nat} : ∀ {l : List CV}, (∀ v ∈ l, zub v a b) -> zuc l /\ sizeCs l <= l.length * a /\ (zb1 l).length <= l.length * b
 | [], _ => by rw [zuc, zck, zb1]; exact ⟨trivial, by simp, by simp⟩
 | v :: l, h => by
   obtain ⟨i1, i2, i3⟩ := yla (l := l) fun w hw => h w (by simp [hw])
   have hv := h v (by simp)
   have h2 := hv.sz
   have h3 := hv.tx
   rw [zuc, zbi, zb1, List.length_append, List.length_cons, Nat.succ_mul, Nat.succ_mul]
   exact ⟨⟨hv.wf, i1⟩, by omega, by omega⟩
theorem zjf {l : List CV} {a b : Nat} (m : Nat) (h : ∀ v ∈ l, zub v a b) (hl : l.length <= m) (hm : m <= 1000) : zub (zdq l) (m * a + 1) (11 + m * b) := by
 obtain ⟨i1, i2, i3⟩ := yla h
 have e1 := Nat.mul_le_mul_right a hl
 have e2 := Nat.mul_le_mul_right b hl
 refine ⟨?_, ?_, ?_⟩
 · rw [zdq, wfV]; exact ⟨⟨by decide, by decide⟩, by decide, i1⟩
 · rw [zdq, zcq]; omega
 · rw [zdq, zan, if_neg (by decide), if_neg (by decide), List.length_append, List.length_append]
   have := ziy (n := (l.length : Int)) ⟨by omega, by omega⟩
   have e : (zgf 3).length = 1 := rfl
   omega
def yd3 (x : Rt) : Bool := decide (x.h.length <= 300) && decide (x.p.length <= 300) && decide (x.c.length <= 300)
def zvp (x : Ls) : Bool := decide (x.n.length <= 300) && decide (x.rs.length <= 12) && x.rs.all yd3
def zvr (x : Cl) : Bool := decide (x.n.length <= 300) && decide (x.es.length <= 12)
def zvq (x : Cf) : Bool := decide (x.ls.length <= 12) && decide (x.cs.length <= 12) && x.ls.all zvp && x.cs.all zvr
def wfRt (x : Rt) : Prop := zcr x.i
def wfEp (x : Ep) : Prop := zzn x.pl /\ -9223372036854775808 <= x.w /\ x.w <= 9223372036854775807
def yr2 (x : Ls) : Prop := zzn x.pl /\ ∀ r ∈ x.rs, wfRt r
def wfCl (x : Cl) : Prop := ∀ e ∈ x.es, wfEp e
def wfCf (x : Cf) : Prop := zcr x.v /\ (∀ l ∈ x.ls, yr2 l) /\ ∀ c ∈ x.cs, wfCl c
def ztv (x : Cf) : CV := zdq [zgy x.v, yd1 x.ls, yf1 x.cs]
theorem yc7 (x : Pl) : (plB x).length = 6 := rfl
theorem ytc {x : Rt} (hl : yd3 x = true) (hw : wfRt x) : zub (zhs x) 5 1255 := by
 simp only [yd3, Bool.and_eq_true, decide_eq_true_eq] at hl
 refine zjf (a := 1) (b := 311) 4 (fun v hv => ?_) (Nat.le_of_ble_eq_true rfl) (by decide)
 simp only [List.mem_cons, List.not_mem_nil, or_false] at hv
 rcases hv with rfl | rfl | rfl | rfl
 · exact zhc hl.1.1 (by omega)
 · exact zhc hl.1.2 (by omega)
 · exact zhc hl.2 (by omega)
 · exact (zti hw).up (by omega) (by omega)
theorem zk4 {α : Type} {val : α -> CV} {l : List α} {a b : Nat} (m : Nat) (h : ∀ x ∈ l, zub (val x) a b) (hl : l.length <= m) (hm : m <= 1000) : zub (zp7 val l) (m * a + 1) (11 + m * b) :=
 zjf m (fun v hv => by obtain ⟨x, hx, rfl⟩ := List.mem_map.1 hv; exact h x hx) (by simpa using hl) hm
theorem ytd {x : Ep} (hw : wfEp x) : zub (zib x) 3 45 := by
 refine zjf (a := 1) (b := 17) 2 (fun v hv => ?_) (Nat.le_of_ble_eq_true rfl) (by decide)
 simp only [List.mem_cons, List.not_mem_nil, or_false] at hv
 rcases hv with rfl | rfl
 · exact zhc (m := 6) (Nat.le_of_eq (yc7 _)) (by omega)
 · exact (zti ⟨by omega, by omega⟩).up (by omega) (by omega)
theorem yoq {x : Ls} (hl : zvp x = true) (hw : yr2 x) : zub (zj9 x) 184 45224 := by
 simp only [zvp, Bool.and_eq_true, decide_eq_true_eq, List.all_eq_true] at hl
 refine zjf (a := 61) (b := 15071) 3 (fun v hv => ?_) (Nat.le_of_ble_eq_true rfl) (by decide)
 simp only [List.mem_cons, List.not_mem_nil, or_false] at hv
 rcases hv with rfl | rfl | rfl
 · exact (zhc hl.1.1 (by omega)).up (by omega) (by omega)
 · exact (zhc (m := 6) (Nat.le_of_eq (yc7 _)) (by omega)).up (by omega) (by omega)
 · exact (zk4 (a := 5) (b := 1255) 12 (fun r hr => ytc (hl.2 r hr) (hw.2 r hr)) hl.1.2 (by omega)).up (by omega) (by omega)
theorem yte {x : Cl} (hl : zvr x = true) (hw : wfCl x) : zub (zjg x) 75 1113 := by
 simp only [zvr, Bool.and_eq_true, decide_eq_true_eq] at hl
 refine zjf (a := 37) (b := 551) 2 (fun v hv => ?_) (Nat.le_of_ble_eq_true rfl) (by decide)
 simp only [List.mem_cons, List.not_mem_nil, or_false] at hv
 rcases hv with rfl | rfl
 · exact (zhc hl.1 (by omega)).up (by omega) (by omega)
 · exact (zk4 (a := 3) (b := 45) 12 (fun e he => ytd (hw e he)) hl.2 (by omega)).up (by omega) (by omega)
theorem ytf {x : Cf} (hl : zvq x = true) (hw : wfCf x) : zub (ztv x) 7000 2000000 := by
 simp only [zvq, Bool.and_eq_true, decide_eq_true_eq, List.all_eq_true] at hl
 refine (zjf (a := 2209) (b := 542699) 3 (fun v hv => ?_) (Nat.le_of_ble_eq_true rfl) (by decide)).up (by decide) (by decide)
 simp only [List.mem_cons, List.not_mem_nil, or_false] at hv
 rcases hv with rfl | rfl | rfl
 · exact (zti hw.1).up (by omega) (by omega)
 · exact (zk4 (a := 184) (b := 45224) 12 (fun r hr => yoq (hl.1.2 r hr) (hw.2.1 r hr)) hl.1.1.1 (by omega)).up (by omega) (by omega)
 · exact (zk4 (a := 75) (b := 1113) 12 (fun r hr => yte (hl.2 r hr) (hw.2.2 r hr)) hl.1.1.2 (by omega)).up (by omega) (by omega)
def zsx (x : Cf) : Bool := decide (8 < x.ls.length \/ 8 < x.cs.length) || x.ls.any zh6 || x.cs.any zj7
def yv5 (x : Cf) : Bool := x.cs.any zzr
def cfE (x : Cf) : Int := if zsx x = true then 6 else if yv5 x = true then 7 else zsh (ztv x)
def cfT (x : Cf) : List UInt8 := if cfE x = 0 then zxv (ztv x) else []
end Sy
end Go.Proofs.YtogpolfhcbgcbaaGreatDoor
namespace Go.Proofs.YtogpolfhcbgcbaaGreatDoor
namespace Sy
open Go Go.RowKit
set_option maxRecDepth 100000
set_option linter.unusedSimpArgs false
set_option linter.unusedVariables false
theorem lit3 (a b c : CV) : rdL (.lst 4 3 fun i j => zbo .dead [.int .i64 a.kd, .int .u64 a.nn, .str a.tx, .lst 4 (zm8 a) (zk9 a), .int .i64 b.kd, .int .u64 b.nn, .str b.tx, .lst 4 (zm8 b) (zk9 b), .int .i64 c.kd, .int .u64 c.nn, .str c.tx, .lst 4 (zm8 c) (zk9 c)] (i * 4 + j)) = [a, b, c] := (zlz [a, b, c] (n := 3) rfl rfl).1
theorem yno (a b c : CV) : okL (.lst 4 3 fun i j => zbo .dead [.int .i64 a.kd, .int .u64 a.nn, .str a.tx, .lst 4 (zm8 a) (zk9 a), .int .i64 b.kd, .int .u64 b.nn, .str b.tx, .lst 4 (zm8 b) (zk9 b), .int .i64 c.kd, .int .u64 c.nn, .str c.tx, .lst 4 (zm8 c) (zk9 c)] (i * 4 + j)) := (zlz [a, b, c] (n := 3) rfl rfl).2
def ysr (n : Nat) (x : Cf) : Prop := x.ls.length <= n /\ x.cs.length <= n
def yn3 (x : Cf) : Prop := ysr 1000000 x
def yn4 (x : Cf) : Prop := zil x.cs /\ ∀ c ∈ x.cs, zsj c
theorem zyc : zaz Tryz.prog (prS 81 zst zo5 zsx yn3 std) := by
 intro xs p r h hp
 dsimp only [prS] at h |-
 split at h <;> cases h
 try simp only [L2, L3, std] at hp |-
 rename_i x
 refine zws zrc hp.1 ?_
 have hp := hp.2
 show za9 _ _ _ (.bool (zsx (rdG cfV x)))
 have hp : yn3 (rdG cfV x) := hp
 generalize rdG cfV x = y at hp |-
 refine za5 (T := tt) (S := fun L => zam [zzs 103 104 zsr zsd yk5 zmt L, zzs 105 106 zl1 zkw yk6 zmu L]) (lo := fun _ => noA std) (lb := noA) 5 (fn := Tryz.f81) (xs := fun L => [.agg [.int .u64 (L Cf.v y), zsz L (L Cf.ls y), zom L (L Cf.cs y)]]) rfl rfl (by kernel_rfl) (by kernel_rfl) rfl zab (za2 ⟨zzg ynl, zzh ynm, trivial⟩) (by kernel_rfl) ?_
 intro L P' Q' hL hP hQ
 (cbv; try simp only [syT, true_and, and_true])
 (subst hL; subst hQ; simp only [L2, L3, std] at *; try simp only [syS, reduceCtorEq, Int.reduceToNat, Int.reduceAdd, Int.reduceSub] at *)
 simp only [ymr, ybs]
 have e1 : zcm y.ls = y.ls.length := rfl
 have e2 : zcm y.cs = y.cs.length := rfl
 refine ⟨fun h => ?_, fun h => ⟨⟨yn8 _, hp.1, fun _ _ => trivial⟩, fun h2 => ?_, fun h2 => ⟨⟨ycj _, hp.2, fun _ _ => trivial⟩, ?_⟩⟩⟩
 · unfold zsx; rw [decide_eq_true (by omega)]; rfl
 · unfold zsx; rw [show y.ls.any zh6 = true from h2]; simp
 · unfold zsx; rw [show y.ls.any zh6 = false from h2, decide_eq_false (by omega)]; simp; rfl
theorem yfu : zaz Tryz.prog (prS 82 zst zo5 yv5 yn4 std) := by
 intro xs p r h hp
 dsimp only [prS] at h |-
 split at h <;> cases h
 try simp only [L2, L3, std] at hp |-
 rename_i x
 refine zws zrc hp.1 ?_
 have hp := hp.2
 show za9 _ _ _ (.bool (yv5 (rdG cfV x)))
 have hp : yn4 (rdG cfV x) := hp
 generalize rdG cfV x = y at hp |-
 refine za5 (T := tt) (S := fun L => zam [zzs 105 107 zl1 zkw yk8 zmw L]) (lo := fun _ => noA std) (lb := noA) 5 (fn := Tryz.f82) (xs := fun L => [.agg [.int .u64 (L Cf.v y), zsz L (L Cf.ls y), zom L (L Cf.cs y)]]) rfl rfl (by kernel_rfl) (by kernel_rfl) rfl zab (za2 ⟨zzj yq9, trivial⟩) (by kernel_rfl) ?_
 intro L P' Q' hL hP hQ
 (cbv; try simp only [syT, true_and, and_true])
 (subst hL; subst hQ; simp only [L2, L3, std] at *; try simp only [syS, reduceCtorEq, Int.reduceToNat, Int.reduceAdd, Int.reduceSub] at *)
 simp only [ybs]
 exact ⟨⟨ycj _, hp.1, hp.2⟩, rfl⟩
def yfr (x : Cf) : Prop := zvq x = true /\ wfCf x
def yq2 (L : za7) : zbf := (65, fun xs => match xs with
 | [x] => some (L zst x /\ L yfr (L zo5 x), .tup [.str (L cfT (L zo5 x)), .int .i64 (L cfE (L zo5 x))])
 | _ => none)
theorem yk1 : zaz Tryz.prog (yq2 std) := by
 intro xs p r h hp
 dsimp only [yq2] at h |-
 split at h <;> cases h
 try simp only [L2, L3, std] at hp |-
 rename_i x
 refine zws zrc hp.1 ?_
 have hp := hp.2
 show za9 _ _ _ (.tup [.str (cfT (rdG cfV x)), .int .i64 (cfE (rdG cfV x))])
 have hp : yfr (rdG cfV x) := hp
 generalize rdG cfV x = y at hp |-
 refine za5 (T := tt) (S := fun L => zam [prS 81 zst zo5 zsx yn3 L, prS 82 zst zo5 yv5 yn4 L, zy5 L, zfr L, zwi 7000 L, zjv 86 87 zsr zsd yl3 yd1 L, zjv 88 89 zl1 zkw yln yf1 L]) (lo := fun _ => noA std) (lb := noA) 5 (fn := Tryz.f65) (xs := fun L => [.agg [.int .u64 (L Cf.v y), zsz L (L Cf.ls y), zom L (L Cf.cs y)]]) rfl rfl (by kernel_rfl) (by kernel_rfl) rfl zab (za2 ⟨zyc, yfu, zjz, zca, znj 7000, ztn zon, ztp zrb, trivial⟩) (by kernel_rfl) ?_
 intro L P' Q' hL hP hQ
 have hG : L zo5 (.agg [.int .u64 (L Cf.v y), .lst 7 (L zcm (L Cf.ls y)) (fun i => lsC L (L (L zmb (L Cf.ls y)) i)), .lst 2 (L zcm (L Cf.cs y)) (fun i => clC L (L (L zl3 (L Cf.cs y)) i))]) = y := by subst hL; exact (gK zrc y _ rfl).2
 have hO : L zst (.agg [.int .u64 (L Cf.v y), .lst 7 (L zcm (L Cf.ls y)) (fun i => lsC L (L (L zmb (L Cf.ls y)) i)), .lst 2 (L zcm (L Cf.cs y)) (fun i => clC L (L (L zl3 (L Cf.cs y)) i))]) := by subst hL; exact (gK zrc y _ rfl).1
 (cbv; try simp only [syT, true_and, and_true])
 simp only [hG, hO, true_and]
 (subst hL; subst hQ; simp only [L2, L3, std] at *; try simp only [syS, reduceCtorEq, Int.reduceToNat, Int.reduceAdd, Int.reduceSub] at *)
 simp only [ymr, ybs]
 simp only [lit3, zdn, zby]
 obtain ⟨hl, hw⟩ := hp
 have hf := ytf hl hw
 have hl' := hl
 simp only [zvq, Bool.and_eq_true, decide_eq_true_eq, List.all_eq_true, zvp, zvr] at hl'
 obtain ⟨⟨⟨l1, l2⟩, l3⟩, l4⟩ := hl'
 have sz1 : ∀ {α : Type} {l : List α} (n : Nat), n <= 12 -> l.length <= n -> zil l := fun n hn hl => by show _ <= 1000000; omega
 refine ⟨⟨by omega, by omega⟩, fun h => ?_, fun h => ⟨⟨sz1 12 (by omega) l2, fun c hc => sz1 12 (by omega) (l4 c hc).2⟩, fun h2 => ?_, fun h2 => ⟨⟨yn8 _, sz1 12 (by omega) l1, fun x hx => ⟨(hw.2.1 x hx).1, sz1 12 (by omega) (l3 x hx).1.2⟩⟩, ⟨ycj _, sz1 12 (by omega) l2, fun c hc => ⟨sz1 12 (by omega) (l4 c hc).2, fun e he => (hw.2.2 c hc e he).1⟩⟩, ⟨yno _ _ _, by show (3 : Nat) <= 1000000; omega⟩, ⟨(zku _).2, ⟨hf.sz, by omega⟩, hf.wf, ?_⟩, ?_⟩⟩⟩
 · have e : cfE y = 6 := by unfold cfE; rw [if_pos h]
   exact ⟨by rw [cfT, if_neg (by rw [e]; decide)], e.symm⟩
 · have e : cfE y = 7 := by unfold cfE; rw [if_neg (by rw [h]; decide), if_pos h2]
   exact ⟨by rw [cfT, if_neg (by rw [e]; decide)], e.symm⟩
 · have := hf.tx
   show (zbv (ztv y)).length <= 90000000
   omega
 · have e : cfE y = zsh (ztv y) := by unfold cfE; rw [if_neg (by rw [h]; decide), if_neg (by rw [h2]; decide)]
   refine ⟨?_, e.symm⟩
   show zxv (ztv y) = cfT y
   unfold cfT
   rw [e]
   split
   · rfl
   · rename_i h3
     unfold zxv; rw [if_neg h3]
def toGo {α : Type} (l : List α) (i : Nat) : Nat := l.length - i
end Sy
end Go.Proofs.YtogpolfhcbgcbaaGreatDoor
namespace Go.Proofs.YtogpolfhcbgcbaaGreatDoor
namespace Sy
open Go Go.RowKit
set_option maxRecDepth 100000
set_option linter.unusedSimpArgs false
set_option linter.unusedVariables false
end Sy
end Go.Proofs.YtogpolfhcbgcbaaGreatDoor
namespace Go.Proofs.YtogpolfhcbgcbaaGreatDoor
namespace Sy
open Go Go.RowKit
set_option maxRecDepth 100000
set_option linter.unusedSimpArgs false
set_option linter.unusedVariables false
end Sy
end Go.Proofs.YtogpolfhcbgcbaaGreatDoor
namespace Go.Proofs.YtogpolfhcbgcbaaGreatDoor
namespace Sy
open Go Go.RowKit
set_option maxRecDepth 100000
set_option linter.unusedSimpArgs false
set_option linter.unusedVariables false
def yej {α : Type} (V : Vw α) (a b : List α) (i : Nat) : Prop := a.length = b.length /\ i <= a.length /\ ∀ j, j < i -> zik V a j = zik V b j
theorem yp4 {α : Type} {V : Vw α} {a b : List α} (h : a.length = b.length) : yej V a b 0 := ⟨h, Nat.zero_le _, fun j hj => by omega⟩
theorem zyx {α : Type} {V : Vw α} {a b : List α} {i : Nat} (h : yej V a b i) (hi : i < a.length) (e : zik V a i = zik V b i) : yej V a b (i + 1) :=
 ⟨h.1, hi, fun j hj => by
   by_cases ej : j = i
   · rw [ej]; exact e
   · exact h.2.2 j (by omega)⟩
theorem yei {α : Type} {V : Vw α} {a b : List α} {i : Nat} (h : yej V a b i) (hi : a.length <= i) : a = b := by
 apply List.ext_getElem h.1
 intro j h1 h2
 have := h.2.2 j (by omega)
 rwa [zav h1, zav h2] at this
theorem yjm {α : Type} {V : Vw α} {a b : List α} {i : Nat} (e : ¬ zik V a i = zik V b i) : ¬ a = b := fun h => e (by rw [h])
theorem yts {α : Type} {a b : List α} (h : ¬ a.length = b.length) : ¬ a = b := fun e => h (by rw [e])
def ywu {α : Type} (f : Nat) (ok : AV -> Prop) (rd : AV -> List α) (p : List α -> List α -> Bool) (L : za7) : zbf := (f, fun xs => match xs with
 | [x, y] => some (L ok x /\ L ok y /\ L zil (L rd x), .bool (L2 L p (L rd x) (L rd y)))
 | _ => none)
def eqlA {α : Type} (L : za7) (inv : List α -> List α -> Nat -> Prop) (go : List α -> Nat -> Nat) (l m : List α) : Nat -> St -> Option Ann := fun id st => match id with
 | 0 => some ⟨Nat, fun i => [(13, .int .i64 (L zac i))], fun i => [], [0, 1, 11, 12], [], fun i => L3 L inv l m i, fun i => L2 L go l i⟩
 | _ => none
end Sy
end Go.Proofs.YtogpolfhcbgcbaaGreatDoor
namespace Go.Proofs.YtogpolfhcbgcbaaGreatDoor
namespace Sy
open Go Go.RowKit
set_option maxRecDepth 100000
set_option linter.unusedSimpArgs false
set_option linter.unusedVariables false
def zr6 (a b : List Lbx) : Bool := decide (a = b)
def ytr (a b : List Lbx) (i : Nat) : Prop := yej sxV a b i
def zwc (a b : Lbx) : Bool := decide (a = b)
def yws (l : List Lbx) (i : Nat) : Nat := toGo l i
theorem ztk : zaz Tryz.prog (ywu 51 zhy zcz zr6 std) := by
 intro xs p r h hp
 dsimp only [ywu] at h |-
 split at h <;> cases h
 try simp only [L2, L3, std] at hp |-
 rename_i x y
 obtain ⟨ho, ho', hz⟩ := hp
 refine zhe zkh ho (yxj zkh ho' ?_)
 have hz : zil (rdW sxV x) := hz
 show za9 _ _ _ (.bool (zr6 (rdW sxV x) (rdW sxV y)))
 generalize rdW sxV x = l at hz |-
 generalize rdW sxV y = m
 refine za5 (T := tt) (S := noS) (lo := fun L => eqlA L ytr yws l m) (lb := noA) 5 (fn := Tryz.f51) (xs := fun L => [yl2 L l, yl2 L m]) rfl rfl (by kernel_rfl) (by kernel_rfl) rfl zab (zc4 _) (by kernel_rfl) ?_
 intro L P' Q' hL hP hQ
 have e1 : zcm l = l.length := rfl
 have e2 : zcm m = m.length := rfl
 have hz : l.length <= 1000000 := hz
 (cbv; try simp only [syT, true_and, and_true])
 refine ⟨fun hne => ?_, fun heq => ⟨⟨0, ?_⟩, fun i hi => ?_⟩⟩
 · (subst hL; subst hQ; simp only [L2, L3, std] at *; try simp only [syS, reduceCtorEq, Int.reduceToNat, Int.reduceAdd, Int.reduceSub] at *)
   exact (decide_eq_false (yts (by omega))).symm
 · (cbv; try simp only [syT, true_and, and_true])
   (subst hL; subst hQ; simp only [L2, L3, std] at *; try simp only [syS, reduceCtorEq, Int.reduceToNat, Int.reduceAdd, Int.reduceSub] at *)
   exact yp4 (by omega)
 · cbv at hi
   have hE : ∀ x y : Lbx, L2 L seq x y = zwc x y := by
     subst hL
     intro x y
     rw [Bool.eq_iff_iff]
     simp [std, L2, zwc, seq]
   (cbv; try simp only [syT, true_and, and_true])
   simp only [hE]
   refine ⟨fun hlt => ⟨?_, ?_, fun hb => ?_, fun hb => ⟨i + 1, ?_⟩⟩, fun hge => ?_⟩
   · (subst hL; subst hQ; simp only [L2, L3, std] at *; try simp only [syS, reduceCtorEq, Int.reduceToNat, Int.reduceAdd, Int.reduceSub] at *)
     omega
   · (subst hL; subst hQ; simp only [L2, L3, std] at *; try simp only [syS, reduceCtorEq, Int.reduceToNat, Int.reduceAdd, Int.reduceSub] at *)
     omega
   · (subst hL; subst hQ; simp only [L2, L3, std] at *; try simp only [syS, reduceCtorEq, Int.reduceToNat, Int.reduceAdd, Int.reduceSub] at *)
     simp only [zwc, Bool.not_eq_true', decide_eq_false_iff_not] at hb
     exact (decide_eq_false (yjm (V := sxV) (i := i) hb)).symm
   · (cbv; try simp only [syT, true_and, and_true])
     (subst hL; subst hQ; simp only [L2, L3, std] at *; try simp only [syS, reduceCtorEq, Int.reduceToNat, Int.reduceAdd, Int.reduceSub] at *)
     simp only [zwc, Bool.not_eq_false', decide_eq_true_eq] at hb
     refine ⟨by omega, zyx hi (by omega) hb, ?_⟩
     show l.length - (i + 1) < l.length - i
     omega
   · (subst hL; subst hQ; simp only [L2, L3, std] at *; try simp only [syS, reduceCtorEq, Int.reduceToNat, Int.reduceAdd, Int.reduceSub] at *)
     exact (decide_eq_true (yei hi (by omega))).symm
theorem zky (s : Lbx) : (zaj s).length <= s.length + 1 := by
 have h1 : (zaj s).length <= (zae s zmo).length := List.length_filter_le _ _
 have h2 : (zae s zmo).length = cntB s zmo + 1 := zat (by1 zmo) s
 have := zwk s zmo
 omega
theorem ykq (m : List Lbx) {k : Nat} (hk : k <= m.length) : zhy (.lst 1 k fun i => sxC std (zaq m i)) /\ zcz (.lst 1 k fun i => sxC std (zaq m i)) = m.take k := by
 refine ⟨⟨rfl, fun i hi => ⟨_, rfl⟩⟩, ?_⟩
 show (List.range k).map (fun i => zaq m i) = m.take k
 apply List.ext_getElem
 · simp [hk]
 · intro i h1 h2
   have hi : i < k := by simpa using h1
   simp only [List.getElem_map, List.getElem_range, List.getElem_take]
   exact zl2 (by omega)
def zww (a b : Lbx) : Bool := decide ((zaj a).length <= (zaj b).length) && decide (zaj a = (zaj b).take (zaj a).length)
def yr6 (a b : Lbx) : Prop := a.length <= 900000 /\ b.length <= 900000
def ylx (L : za7) : zbf := (29, fun xs => match xs with
 | [.str a, .str b] => some (L2 L yr6 a b, .bool (L2 L zww a b))
 | _ => none)
theorem ygl : zaz Tryz.prog (ylx std) := by
 intro xs p r h hp
 dsimp only [ylx] at h |-
 split at h <;> cases h
 try simp only [L2, L3, std] at hp |-
 rename_i a b
 obtain ⟨h1, h2⟩ : yr6 a b := hp
 refine za6 (T := tt) (S := fun L => zam [yhm L, ywu 51 zhy zcz zr6 L]) (lo := noA) (lb := noA) 5 (fn := Tryz.f29) rfl rfl (by kernel_rfl) (by kernel_rfl) rfl zab (za2 ⟨zuv, ztk, trivial⟩) (by kernel_rfl) ?_
 intro L P' Q' hL hP hQ
 (cbv; try simp only [syT, true_and, and_true])
 subst hL; subst hQ
 have e1 : (zaj a).length <= 1000000 := by have := zky a; omega
 obtain ⟨r1, r2⟩ := ykq (zaj a) (Nat.le_refl _)
 rw [List.take_length] at r2
 refine ⟨h1, h2, fun h => ?_, fun h => ?_⟩
 · have h : ile (zac (zaj a).length) (zac (zaj b).length) = true := h
   have hle : (zaj a).length <= (zaj b).length := by
     rw [ydo, zaa, zaa] at h; omega
   obtain ⟨q1, q2⟩ := ykq (zaj b) hle
   refine ⟨?_, ⟨r1, q1, ?_⟩, ?_⟩
   · show inC (zac (zaj a).length) (zac (zaj b).length) = true
     rw [ysx, zaa, zaa]; omega
   · show zil (zcz (.lst 1 (zaj a).length fun i => sxC std (zaq (zaj a) i)))
     rw [r2]; exact e1
   · rw [zak]
     show zr6 (zcz (.lst 1 (zaj a).length fun i => sxC std (zaq (zaj a) i))) (zcz (.lst 1 (zaj a).length fun i => sxC std (zaq (zaj b) i))) = zww a b
     rw [r2, q2]
     unfold zww zr6
     rw [decide_eq_true hle, Bool.true_and]
 · have h : ile (zac (zaj a).length) (zac (zaj b).length) = false := h
   have hle : ¬ (zaj a).length <= (zaj b).length := by
     rw [yo1, zaa, zaa] at h; omega
   rw [zak]
   unfold zww
   rw [decide_eq_false hle, Bool.false_and]
end Sy
end Go.Proofs.YtogpolfhcbgcbaaGreatDoor
namespace Go.Proofs.YtogpolfhcbgcbaaGreatDoor
namespace Sy
open Go Go.RowKit
set_option maxRecDepth 100000
set_option linter.unusedSimpArgs false
set_option linter.unusedVariables false
structure Mq where
 h : List UInt8
 p : List UInt8
 host : List UInt8
 path : List UInt8
def zjt (L : za7) (h p host path : List UInt8) : Mq := L (L (L (L Mq.mk h) p) host) path
def zl8 (q : Mq) : Prop := q.h.length <= 900000 /\ q.p.length <= 900000 /\ q.host.length <= 900000 /\ q.path.length <= 900000
noncomputable def mtB (q : Mq) : Bool := decide (zd3 q.path = 0) && (zru q.h q.host && zww q.p q.path)
noncomputable def yi5 (L : za7) : zbf := (11, fun xs => match xs with
 | [.agg [.str h, .str p, .str c, .int .u64 i], .str host, .str path] => some (L zl8 (zjt L h p host path), .bool (L mtB (zjt L h p host path)))
 | _ => none)
theorem zvf : zaz Tryz.prog (yi5 std) := by
 intro xs p r h hp
 dsimp only [yi5] at h |-
 split at h <;> cases h
 try simp only [L2, L3, std] at hp |-
 rename_i h p c i host path
 obtain ⟨h1, h2, h3, h4⟩ : zl8 ⟨h, p, host, path⟩ := hp
 have h1 : h.length <= 900000 := h1
 have h2 : p.length <= 900000 := h2
 have h3 : host.length <= 900000 := h3
 have h4 : path.length <= 900000 := h4
 refine za6 (T := tt) (S := fun L => zam [ycb L, yjy L, ylx L]) (lo := noA) (lb := noA) 5 (fn := Tryz.f11) rfl rfl (by kernel_rfl) (by kernel_rfl) rfl zab (za2 ⟨ycc, zwj, ygl, trivial⟩) (by kernel_rfl) ?_
 intro L P' Q' hL hP hQ
 (cbv; try simp only [syT, true_and, and_true])
 subst hL; subst hQ
 have e : mtB (zjt std h p host path) = (decide (zd3 path = 0) && (zru h host && zww p path)) := rfl
 refine ⟨by show path.length <= 1000000000; omega, fun k => ⟨⟨by omega, by omega⟩, fun k2 => ⟨⟨h2, h4⟩, ?_⟩, fun k2 => ?_⟩, fun k => ?_⟩
 · have k : ieq (zd3 path) 0 = true := k
   rw [ydp] at k
   have k2 : zru h host = true := k2
   rw [zak, e, k2, decide_eq_true k]; rfl
 · have k2 : zru h host = false := k2
   rw [zak, e, k2, Bool.false_and, Bool.and_false]
 · have k : ieq (zd3 path) 0 = false := k
   rw [ydq] at k
   rw [zak, e, decide_eq_false k, Bool.false_and]
def rkA (h : List UInt8) : Int := 2 * (zpm h [46] + 1) - (if zjs h [42] = true then 1 else 0)
def rkB (p : List UInt8) : Int := (zaj p).length
noncomputable def rk1 (q : Mq) : Int := if mtB q = true then rkA q.h else 0
noncomputable def rk2 (q : Mq) : Int := if mtB q = true then rkB q.p else 0
noncomputable def ybl (L : za7) : zbf := (12, fun xs => match xs with
 | [.agg [.str h, .str p, .str c, .int .u64 i], .str host, .str path] => some (L zl8 (zjt L h p host path), .cpx .f64 (L fOf (L rk1 (zjt L h p host path))) (L fOf (L rk2 (zjt L h p host path))))
 | _ => none)
theorem zo2 : zaz Tryz.prog (ybl std) := by
 intro xs p r h hp
 dsimp only [ybl] at h |-
 split at h <;> cases h
 try simp only [L2, L3, std] at hp |-
 rename_i h p c i host path
 obtain ⟨h1, h2, h3, h4⟩ : zl8 ⟨h, p, host, path⟩ := hp
 have h1 : h.length <= 900000 := h1
 have h2 : p.length <= 900000 := h2
 refine za6 (T := tt) (S := fun L => zam [yi5 L, yf0 L, yhp L, yhm L, yhq L]) (lo := noA) (lb := noA) 5 (fn := Tryz.f12) rfl rfl (by kernel_rfl) (by kernel_rfl) rfl zab (za2 ⟨zvf, zpb, zuw, zuv, zuz, trivial⟩) (by kernel_rfl) ?_
 intro L P' Q' hL hP hQ
 (cbv; try simp only [syT, true_and, and_true])
 subst hL; subst hQ
 obtain ⟨q, hq⟩ : ∃ q : Mq, q = zjt std h p host path := ⟨_, rfl⟩
 have qh : q.h = h := by rw [hq]; rfl
 have qp : q.p = p := by rw [hq]; rfl
 rw [<- hq]
 have hc0 : 0 <= zpm h [46] := Int.natCast_nonneg _
 have hc1 : zpm h [46] <= 900000 := by
   have h1' : h.count (by1 [46]) <= h.length := List.count_le_length
   show ((h.count (by1 [46]) : Nat) : Int) <= 900000
   omega
 have hp1 := zky p
 have e1 : ygi .i64 2 (zhj .i64 (zpm h [46]) 1) = 2 * (zpm h [46] + 1) := by
   have e0 : zhj .i64 (zpm h [46]) 1 = zpm h [46] + 1 := by
     unfold zhj
     rw [zio]; omega
   rw [e0]
   unfold ygi
   rw [zio]; omega
 have e2 : zin .i64 (ygi .i64 2 (zhj .i64 (zpm h [46]) 1)) 1 = 2 * (zpm h [46] + 1) - 1 := by
   rw [e1]
   unfold zin
   rw [zio]; omega
 refine ⟨?_, fun k => ?_, fun k => ⟨rfl, ?_, fun k2 => ⟨h2, ?_, ?_⟩, fun k2 => ⟨h2, ?_, ?_⟩⟩⟩
 · rw [hq]; exact ⟨h1, h2, h3, h4⟩
 · have k : (!(mtB q)) = true := k
   have k : mtB q = false := by simpa using k
   rw [zgu, rk1, rk2, k, if_neg (by decide), if_neg (by decide)]
   exact ⟨by decide, by decide⟩
 · show h.length <= 1000000000 /\ 1 <= 1000000000
   omega
 · show zv7 (zin .i64 (ygi .i64 2 (zhj .i64 (zpm h [46]) 1)) 1) (zac (zaj p).length)
   rw [e2, zaa]
   refine ⟨by omega, by omega, by omega, by omega⟩
 · have k : (!(mtB q)) = false := k
   have k : mtB q = true := by simpa using k
   have k2 : zjs h [42] = true := k2
   rw [zgu]
   refine ⟨?_, ?_⟩
   · show fOf (zac (zaj p).length) = fOf (rk2 q)
     rw [rk2, if_pos k, qp]; rfl
   · show fOf (zin .i64 (ygi .i64 2 (zhj .i64 (zpm h [46]) 1)) 1) = fOf (rk1 q)
     rw [e2, rk1, if_pos k, qh, rkA, if_pos k2]
 · show zv7 (ygi .i64 2 (zhj .i64 (zpm h [46]) 1)) (zac (zaj p).length)
   rw [e1, zaa]
   refine ⟨by omega, by omega, by omega, by omega⟩
 · have k : (!(mtB q)) = false := k
   have k : mtB q = true := by simpa using k
   have k2 : zjs h [42] = false := k2
   rw [zgu]
   refine ⟨?_, ?_⟩
   · show fOf (zac (zaj p).length) = fOf (rk2 q)
     rw [rk2, if_pos k, qp]; rfl
   · show fOf (ygi .i64 2 (zhj .i64 (zpm h [46]) 1)) = fOf (rk1 q)
     rw [e1, rk1, if_pos k, qh, rkA, if_neg (by rw [k2]; decide), Int.sub_zero]
end Sy
end Go.Proofs.YtogpolfhcbgcbaaGreatDoor
namespace Go.Proofs.YtogpolfhcbgcbaaGreatDoor
namespace Sy
open Go Go.RowKit
set_option maxRecDepth 100000
set_option linter.unusedSimpArgs false
set_option linter.unusedVariables false
structure Mb where
 rs : List Rt
 host : List UInt8
 path : List UInt8
def mbQ (c : Mb) (i : Nat) : Mq := ⟨(zbk c.rs i).h, (zbk c.rs i).p, c.host, c.path⟩
structure Bs where
 b : Int
 s : Bool
 x : Int
 y : Int
def zh8 (a b x y : Int) : Bool := decide (x < a) || (decide (a = x) && decide (y < b))
noncomputable def bsN (c : Mb) : Nat -> Bs
 | 0 => ⟨0, false, 0, 0⟩
 | i + 1 => if zh8 (rk1 (mbQ c i)) (rk2 (mbQ c i)) (bsN c i).x (bsN c i).y = true then ⟨i, true, rk1 (mbQ c i), rk2 (mbQ c i)⟩ else bsN c i
def yl1 (c : Mb) : Prop := c.rs.length <= 1000000 /\ c.host.length <= 900000 /\ c.path.length <= 900000 /\ ∀ r ∈ c.rs, r.h.length <= 900000 /\ r.p.length <= 900000
def yxb (c : Mb) (i : Nat) : Prop := i <= c.rs.length
def bsMu (c : Mb) (i : Nat) : Nat := c.rs.length - i
noncomputable def bsA (L : za7) (c : Mb) : Nat -> St -> Option Ann := fun id st => match id with
 | 0 => some ⟨Nat, fun i => [(8, .int .i64 (L Bs.b (L2 L bsN c i))), (9, .bool (L Bs.s (L2 L bsN c i))), (10, .cpx .f64 (L fOf (L Bs.x (L2 L bsN c i))) (L fOf (L Bs.y (L2 L bsN c i)))), (11, .int .i64 (L zac i))], fun i => [], [1, 2, 3], [3], fun i => L2 L yxb c i, fun i => L2 L bsMu c i⟩
 | _ => none
noncomputable def bsB (c : Mb) : Int := (bsN c c.rs.length).b
noncomputable def bsS (c : Mb) : Bool := (bsN c c.rs.length).s
def yni (L : za7) (l : Ls) (host path : List UInt8) : Mb := L (L (L Mb.mk (L Ls.rs l)) host) path
noncomputable def yq3 (L : za7) : zbf := (9, fun xs => match xs with
 | [x, .str host, .str path] => some (L zj5 x /\ L yl1 (yni L (L zcw x) host path), .tup [.int .i64 (L bsB (yni L (L zcw x) host path)), .bool (L bsS (yni L (L zcw x) host path))])
 | _ => none)
def inM (a : Int) : Prop := 0 <= a /\ a <= 1099511627776
theorem zem {a : Int} (h : inM a) : ∃ n : Nat, a = (n : Int) /\ n <= 2 ^ 40 := by
 obtain ⟨h1, h2⟩ := h
 refine ⟨a.toNat, by omega, ?_⟩
 have : (2 : Nat) ^ 40 = 1099511627776 := by decide
 omega
theorem zdc {a : Int} (h : inM a) : yqs (fOf a) := by
 obtain ⟨n, rfl, hn⟩ := zem h
 exact ⟨n, hn, rfl⟩
theorem zq0 {q : Mq} (h : zl8 q) : inM (rk1 q) /\ inM (rk2 q) := by
 obtain ⟨h1, h2, h3, h4⟩ := h
 have hc0 : 0 <= zpm q.h [46] := Int.natCast_nonneg _
 have hc1 : zpm q.h [46] <= 900000 := by
   have h1' : q.h.count (by1 [46]) <= q.h.length := List.count_le_length
   show ((q.h.count (by1 [46]) : Nat) : Int) <= 900000
   omega
 have hp := zky q.p
 unfold rk1 rk2 rkA rkB inM
 refine ⟨?_, ?_⟩
 · split
   · split <;> omega
   · omega
 · split <;> omega
theorem yfm {a b x y : Int} (ha : inM a) (hb : inM b) (hx : inM x) (hy : inM y) : ilt 0 (ygg (fOf a) (fOf b) (fOf x) (fOf y)) = zh8 a b x y := by
 obtain ⟨a, rfl, na⟩ := zem ha
 obtain ⟨b, rfl, nb⟩ := zem hb
 obtain ⟨x, rfl, nx⟩ := zem hx
 obtain ⟨y, rfl, ny⟩ := zem hy
 have k : ∀ n : Nat, n <= 2 ^ 40 -> n < 2 ^ 53 := fun n h => Nat.lt_of_le_of_lt h (by decide)
 unfold ygg
 rw [zp4 (k _ na) (k _ nx), zp4 (k _ nb) (k _ ny)]
 unfold zh8
 rcases Nat.lt_trichotomy a x with h | h | h
 · rw [if_pos h, if_neg (by decide : ¬ (-1 : Int) = 0), decide_eq_false (show ¬ ((x : Int) < a) by omega), decide_eq_false (show ¬ ((a : Int) = x) by omega)]
   rfl
 · subst h
   rw [if_neg (Nat.lt_irrefl _), if_neg (Nat.lt_irrefl _), if_pos rfl, decide_eq_false (show ¬ ((a : Int) < a) by omega), decide_eq_true (rfl : (a : Int) = a)]
   rcases Nat.lt_trichotomy b y with h2 | h2 | h2
   · rw [if_pos h2, decide_eq_false (show ¬ ((y : Int) < b) by omega)]; rfl
   · subst h2
     rw [if_neg (Nat.lt_irrefl _), if_neg (Nat.lt_irrefl _), decide_eq_false (show ¬ ((b : Int) < b) by omega)]; rfl
   · rw [if_neg (show ¬ b < y by omega), if_pos h2, decide_eq_true (show (y : Int) < b by omega)]; rfl
 · rw [if_neg (show ¬ a < x by omega), if_pos h, if_neg (by decide : ¬ (1 : Int) = 0), decide_eq_true (show (x : Int) < a by omega)]
   rfl
theorem ytk {a : Int} (ha : inM a) : fEq .f64 (fOf a) 0 = decide (a = 0) := by
 obtain ⟨a, rfl, na⟩ := zem ha
 have := ylg (a := a) (b := 0) (Nat.lt_of_le_of_lt na (by decide : 2 ^ 40 < 2 ^ 53)) (by decide)
 rw [show fOf ((0 : Nat) : Int) = 0 by decide] at this
 rw [this]
 by_cases h : a = 0
 · rw [decide_eq_true h, decide_eq_true (by omega)]
 · rw [decide_eq_false h, decide_eq_false (by omega)]
theorem zn2 {c : Mb} (h : yl1 c) {i : Nat} (hi : i < c.rs.length) : zl8 (mbQ c i) := by
 obtain ⟨h1, h2, h3, h4⟩ := h
 have e : zbk c.rs i = c.rs[i] := zav hi
 obtain ⟨q1, q2⟩ := h4 _ (List.getElem_mem hi)
 rw [<- e] at q1 q2
 exact ⟨q1, q2, h2, h3⟩
theorem yua {c : Mb} (h : yl1 c) : ∀ {i : Nat}, i <= c.rs.length -> inM (bsN c i).x /\ inM (bsN c i).y
 | 0, _ => by
   rw [bsN]
   exact ⟨⟨Int.le_refl _, by show (0 : Int) <= 1099511627776; decide⟩, ⟨Int.le_refl _, by show (0 : Int) <= 1099511627776; decide⟩⟩
 | i + 1, hi => by
   have ih := yua h (i := i) (by omega)
   have hr := zq0 (zn2 h (i := i) (by omega))
   rw [bsN]
   split
   · exact hr
   · exact ih
theorem yk2 : zaz Tryz.prog (yq3 std) := by
 intro xs p r h hp
 dsimp only [yq3] at h |-
 split at h <;> cases h
 try simp only [L2, L3, std] at hp |-
 rename_i x host path
 obtain ⟨ho, hok⟩ := hp
 refine zws zd0 ho ?_
 have hok : yl1 (yni std (zcw x) host path) := hok
 show za9 Tryz.prog 9 (.agg ((List.range 7).map (lsC std (zcw x))) :: .str host :: .str path :: []) (.tup [.int .i64 (bsB (yni std (zcw x) host path)), .bool (bsS (yni std (zcw x) host path))])
 generalize zcw x = l at hok |-
 obtain ⟨h1, h2, h3, h4⟩ := hok
 obtain ⟨c, hc⟩ : ∃ c : Mb, c = yni std l host path := ⟨_, rfl⟩
 rw [<- hc]
 refine za5 (T := tt) (S := fun L => zam [ybl L, yca L]) (lo := noA) (lb := fun L => bsA L c) 5 (fn := Tryz.f9) (xs := fun L => [.agg [lsC L l 0, lsC L l 1, lsC L l 2, lsC L l 3, lsC L l 4, lsC L l 5, lsC L l 6], .str host, .str path]) rfl rfl (by kernel_rfl) (by kernel_rfl) rfl zab (za2 ⟨zo2, zo9, trivial⟩) (by kernel_rfl) ?_
 intro L P' Q' hL hP hQ
 (cbv; try simp only [syT, true_and, and_true])
 have hlen : c.rs.length = l.rs.length := by rw [hc]; rfl
 have hcok : yl1 c := by rw [hc]; exact ⟨h1, h2, h3, h4⟩
 have hz : c.rs.length <= 1000000 := hcok.1
 refine ⟨fun i hi => ?_, ?_⟩
 · have hi2 : i <= c.rs.length := by
     have h := hi
     rw [hL] at h
     exact h
   clear hi
   obtain ⟨i', hi'⟩ : ∃ i', i' = i + 1 := ⟨_, rfl⟩
   obtain ⟨b1, b2⟩ := yua hcok hi2
   (cbv; try simp only [syT, true_and, and_true])
   obtain ⟨q, hq⟩ : ∃ q, zjt L (L Rt.h (L (L zbk (L Ls.rs l)) (L Int.toNat (L zac i)))) (L Rt.p (L (L zbk (L Ls.rs l)) (L Int.toNat (L zac i)))) host path = q := ⟨_, rfl⟩
   rw [hq]
   have hqq : q = mbQ c i := by rw [<- hq, hL, hc]; rfl
   refine ⟨fun k => ?_, fun k => ?_⟩
   · have hie : i = c.rs.length := by
       rw [hL] at k
       have k : ieq (zac i) (zac l.rs.length) = true := k
       rw [ydp, zaa, zaa] at k
       omega
     subst hL; subst hQ
     rw [zoy, zez, zez, zlo, zlp, znd]
     unfold bsB bsS
     rw [<- hie]
     exact ⟨rfl, rfl, trivial⟩
   · have hie : i < c.rs.length := by
       have k' := k
       rw [hL] at k'
       have k' : ieq (zac i) (zac l.rs.length) = false := k'
       rw [ydq, zaa, zaa] at k'
       omega
     have hqk := zn2 hcok hie
     obtain ⟨r1, r2⟩ := zq0 hqk
     rw [<- hqq] at hqk r1 r2
     have hn : bsN c i' = if zh8 (rk1 q) (rk2 q) (bsN c i).x (bsN c i).y = true then ⟨i, true, rk1 q, rk2 q⟩ else bsN c i := by rw [hi', bsN, hqq]
     refine ⟨?_, ?_, fun k1 => ⟨?_, fun k2 => ⟨i', ?_⟩, fun k2 => ⟨i', ?_⟩⟩, fun k1 => ⟨i', ?_⟩⟩
     · subst hL
       show inR (zac i) (zac l.rs.length) = true
       rw [zmg, zaa, zaa]; omega
     · subst hL; exact hqk
     · subst hL; exact ⟨⟨zdc r1, zdc r2⟩, zdc b1, zdc b2⟩
     · have hg : zh8 (rk1 q) (rk2 q) (bsN c i).x (bsN c i).y = true := by
         rw [hL] at k2
         rw [<- yfm r1 r2 b1 b2]; exact k2
       rw [if_pos hg] at hn
       (cbv; try simp only [syT, true_and, and_true])
       subst hL
       refine ⟨fun _ _ _ _ => trivial, ?_, ?_, ?_, ?_, ?_, ?_, ?_⟩
       · show zhj .i64 (zac i) 1 = zac i'
         unfold zhj zac
         rw [zio]; omega
       · show fOf (rk2 q) = fOf (bsN c i').y
         rw [hn]
       · show fOf (rk1 q) = fOf (bsN c i').x
         rw [hn]
       · show true = (bsN c i').s
         rw [hn]
       · show zac i = (bsN c i').b
         rw [hn]; rfl
       · show i' <= c.rs.length
         omega
       · show c.rs.length - i' < c.rs.length - i
         omega
     · have hg : zh8 (rk1 q) (rk2 q) (bsN c i).x (bsN c i).y = false := by
         rw [hL] at k2
         rw [<- yfm r1 r2 b1 b2]; exact k2
       rw [if_neg (by rw [hg]; decide)] at hn
       (cbv; try simp only [syT, true_and, and_true])
       subst hL
       refine ⟨fun _ _ _ _ => trivial, ?_, ?_, ?_, ?_, ?_, ?_, ?_⟩
       · show zhj .i64 (zac i) 1 = zac i'
         unfold zhj zac
         rw [zio]; omega
       · show fOf (bsN c i).y = fOf (bsN c i').y
         rw [hn]
       · show fOf (bsN c i).x = fOf (bsN c i').x
         rw [hn]
       · show (bsN c i).s = (bsN c i').s
         rw [hn]
       · show (bsN c i).b = (bsN c i').b
         rw [hn]
       · show i' <= c.rs.length
         omega
       · show c.rs.length - i' < c.rs.length - i
         omega
     · have hg : zh8 (rk1 q) (rk2 q) (bsN c i).x (bsN c i).y = false := by
         rw [hL] at k1
         have k1 : (!(fEq .f64 (fOf (rk1 q)) 0 && fEq .f64 (fOf (rk2 q)) 0)) = false := k1
         rw [ytk r1, ytk r2] at k1
         simp at k1
         obtain ⟨z1, z2⟩ := k1
         rw [z1, z2]
         unfold zh8
         have c1 := b1.1
         have c2 := b2.1
         rw [decide_eq_false (show ¬ ((bsN c i).x < 0) by omega), decide_eq_false (show ¬ ((bsN c i).y < 0) by omega), Bool.and_false]
         rfl
       rw [if_neg (by rw [hg]; decide)] at hn
       (cbv; try simp only [syT, true_and, and_true])
       subst hL
       refine ⟨fun _ _ _ _ => trivial, ?_, ?_, ?_, ?_, ?_, ?_, ?_⟩
       · show zhj .i64 (zac i) 1 = zac i'
         unfold zhj zac
         rw [zio]; omega
       · show fOf (bsN c i).y = fOf (bsN c i').y
         rw [hn]
       · show fOf (bsN c i).x = fOf (bsN c i').x
         rw [hn]
       · show (bsN c i).s = (bsN c i').s
         rw [hn]
       · show (bsN c i).b = (bsN c i').b
         rw [hn]
       · show i' <= c.rs.length
         omega
       · show c.rs.length - i' < c.rs.length - i
         omega
 · refine ⟨0, ?_⟩
   (cbv; try simp only [syT, true_and, and_true])
   subst hL
   refine ⟨fun _ _ _ _ => trivial, rfl, ?_, ?_, ?_, ?_, Nat.zero_le _⟩
   · show 0 = fOf (bsN c 0).y
     rw [bsN]; decide
   · show 0 = fOf (bsN c 0).x
     rw [bsN]; decide
   · show false = (bsN c 0).s
     rw [bsN]
   · show (0 : Int) = (bsN c 0).b
     rw [bsN]
end Sy
end Go.Proofs.YtogpolfhcbgcbaaGreatDoor
namespace Go.Proofs.YtogpolfhcbgcbaaGreatDoor
namespace Sy
open Go Go.RowKit
set_option maxRecDepth 100000
set_option linter.unusedSimpArgs false
set_option linter.unusedVariables false
theorem awT : plT ⟨127, 0, 0, 1, 80⟩ = [49, 50, 55, 46, 48, 46, 48, 46, 49, 58, 56, 48] := by
 have d1 := (zgw (s := [49, 50, 55]) (by decide)).1
 have d2 := (zgw (s := [48]) (by decide)).1
 have d3 := (zgw (s := [49]) (by decide)).1
 have d4 := (zgw (s := [56, 48]) (by decide)).1
 rw [show wnV [49, 50, 55] = 127 by decide] at d1
 rw [show wnV [48] = 0 by decide] at d2
 rw [show wnV [49] = 1 by decide] at d3
 rw [show wnV [56, 48] = 80 by decide] at d4
 rw [plT, d1, d2, d3, d4]; rfl
theorem awO : zzn ⟨127, 0, 0, 1, 80⟩ := ⟨⟨by decide, by decide⟩, ⟨by decide, by decide⟩, ⟨by decide, by decide⟩, ⟨by decide, by decide⟩, by decide, by decide⟩
theorem zzb : za9 Tryz.prog 90 [] (.bool true) := by
 refine za6 (T := tt) (S := fun L => zam [tru 123, yn6 L, zsi L]) (lo := noA) (lb := noA) 5 (fn := Tryz.f90) rfl rfl (by kernel_rfl) (by kernel_rfl) rfl zab (za2 ⟨zbw zns, yhr, zxx, trivial⟩) (by kernel_rfl) ?_
 have e := (ym9 awO).1 (by decide)
 rw [awT] at e
 (intro L P1 Q1 hL hP hQ; cbv; subst hL; simp only [L2, L3, std, syT]; subst hQ)
 (simp only [syS, reduceCtorEq, Int.reduceToNat, Int.reduceAdd, Int.reduceSub])
 simp only [e.1, e.2]
 exact ⟨(by decide : (12 : Nat) <= 1000000), fun _ => ⟨fun _ => ⟨by omega, fun _ => ⟨awO, awT⟩, rfl⟩, trivial⟩, trivial⟩
theorem zzl : za9 Tryz.prog 66 [] (.bool true) := by
 refine za6 (T := tt) (S := fun L => zam [tru 90]) (lo := noA) (lb := noA) 5 (fn := Tryz.f66) rfl rfl (by kernel_rfl) (by kernel_rfl) rfl zab (za2 ⟨zbw zzb, trivial⟩) (by kernel_rfl) ?_
 (intro L P1 Q1 hL hP hQ; cbv; subst hL; simp only [L2, L3, std, syT]; subst hQ)
 (simp only [syS, reduceCtorEq, Int.reduceToNat, Int.reduceAdd, Int.reduceSub])
def plAt (L : za7) (x : Pl) : Nat -> AV
 | 0 => .int .u8 (L Pl.a x)
 | 1 => .int .u8 (L Pl.b x)
 | 2 => .int .u8 (L Pl.c x)
 | 3 => .int .u8 (L Pl.d x)
 | _ => .int .u16 (L Pl.p x)
def plOf (y : List Int × Int × Unit) : Pl := ⟨zk1 y.1 0, zk1 y.1 1, zk1 y.1 2, zk1 y.1 3, y.2.1⟩
theorem yht {H : Type} {enc : TypeId × Value -> H} {W : World} : zen enc Tryz.prog W 25 Pl 5 (plAt std) zzn := by
 have O := (zg3 (P := Tryz.prog) (enc := enc) (W := W) Tryz.underlying25 (by kernel_rfl) (zbj rfl (ycf Tryz.underlying22 (by kernel_rfl) (zl0 Tryz.underlying5 (by kernel_rfl)) (by omega)) (zbj rfl (zl0 Tryz.underlying23 (by kernel_rfl)) (zj4 _))))
 refine ⟨O.size, fun fuel cs x h => ?_⟩
 obtain ⟨y, ⟨⟨hl, hall⟩, hp, _⟩, hlen, hy⟩ := O.go fuel cs x h
 have hb : ∀ j, j < 4 -> 0 <= zk1 y.1 j /\ zk1 y.1 j <= 255 := fun j hj => by
   have hlt : j < y.1.length := by omega
   have := bounds_u8 (hall _ (List.getElem_mem hlt))
   rw [zk1, List.getD_eq_getElem?_getD, List.getElem?_eq_getElem hlt]
   exact this
 refine ⟨plOf y, ⟨hb 0 (by omega), hb 1 (by omega), hb 2 (by omega), hb 3 (by omega), bounds_u16 hp⟩, hlen, fun j hj => ?_⟩
 obtain ⟨v, v1, v2, v3⟩ := hy j hj
 refine ⟨v, v1, v2, ?_⟩
 have cell : ∀ k, k < 4 -> avL (fun n (_ : Nat) => AV.int .u8 n) y.1 (k / 1) (k % 1) = .int .u8 (zk1 y.1 k) := fun k hk => by
   rw [Nat.div_one, avL, zk1, List.getD_eq_getElem?_getD, List.getElem?_eq_getElem (by omega : k < y.1.length)]; rfl
 match j, hj with
 | 0, _ => simp only [Nat.mul_one, Nat.lt_add_one, show (0 : Nat) < 4 by omega, if_true, cell] at v3; exact v3
 | 1, _ => simp only [Nat.mul_one, show (1 : Nat) < 4 by omega, if_true, cell] at v3; exact v3
 | 2, _ => simp only [Nat.mul_one, show (2 : Nat) < 4 by omega, if_true, cell] at v3; exact v3
 | 3, _ => simp only [Nat.mul_one, show (3 : Nat) < 4 by omega, if_true, cell] at v3; exact v3
 | 4, _ => exact v3
end Sy
end Go.Proofs.YtogpolfhcbgcbaaGreatDoor
namespace Go.Proofs.YtogpolfhcbgcbaaGreatDoor
namespace Sy
open Go Go.RowKit
theorem zen.turn {H : Type} {enc : TypeId × Value -> H} {P : Program} {W : World} {t : TypeId} {α β : Type} {sz : Nat} {av : α -> Nat -> AV} {av' : β -> Nat -> AV} {ok : α -> Prop} {ok' : β -> Prop} (O : zen enc P W t α sz av ok) (f : α -> β) (h2 : ∀ y, ok y -> ok' (f y))
   (h1 : ∀ y, ok y -> ∀ j, j < sz -> ∀ v, R W.heap (DW W) zas (av y j) v -> R W.heap (DW W) zas (av' (f y) j) v) : zen enc P W t β sz av' ok' := by
 refine ⟨O.size, fun fuel cs x h => ?_⟩
 obtain ⟨y, y1, y2, y3⟩ := O.go fuel cs x h
 refine ⟨f y, h2 y y1, y2, fun j hj => ?_⟩
 obtain ⟨v, v1, v2, v3⟩ := y3 j hj
 exact ⟨v, v1, v2, h1 y y1 j hj v v3⟩
end Sy
end Go.Proofs.YtogpolfhcbgcbaaGreatDoor
namespace Go.Proofs.YtogpolfhcbgcbaaGreatDoor
namespace Sy
open Go Go.RowKit
set_option maxRecDepth 100000
set_option linter.unusedSimpArgs false
set_option linter.unusedVariables false
theorem ysl {h : Array Obj} {D : Nat -> Prop} {μ : Mu} {sz n : Nat} {get get' : Nat -> Nat -> AV} {v : Value} (e : ∀ i j, i < n -> j < sz -> get i j = get' i j) (r : R h D μ (.lst sz n get) v) : R h D μ (.lst sz n get') v := by
 cases r with
 | lst0 _ _ a cap hn => exact .lst0 _ _ a cap hn
 | lst _ _ _ b o cap vs hD hc hv h1 hr => exact .lst _ _ _ b o cap vs hD hc hv h1 (fun i j hi hj => by rw [<- e i j hi hj]; exact hr i j hi hj)
theorem zy2 {H : Type} {enc : TypeId × Value -> H} {P : Program} {W : World} {t e : TypeId} {α : Type} {V : Vw α} {ok : α -> Prop} (ht : P.underlying t = some (.slice e)) (hc : P.cellsOf t = 1) (he : zen enc P W e α V.sz (V.cell std) ok) (hs : 0 < V.sz) :
   zen enc P W t (List α) 1 (fun l _ => zyd std V l) (fun l => l.length <= maxLen /\ ∀ y ∈ l, ok y) :=
 (zsp ht hc he hs).turn id (fun y h => h) (fun y h j hj v r => ysl (fun i q hi hq => by
   show avL (V.cell std) y i q = V.cell std (zik V y i) q
   have hi : i < y.length := hi
   rw [avL, List.getElem?_eq_getElem hi, zav hi]) r)
end Sy
end Go.Proofs.YtogpolfhcbgcbaaGreatDoor
namespace Go.Proofs.YtogpolfhcbgcbaaGreatDoor
namespace Sy
open Go Go.RowKit
set_option maxRecDepth 100000
set_option linter.unusedSimpArgs false
set_option linter.unusedVariables false
theorem yrk : zb6 3 = [3] := by rw [zb6, show (3 : Int).toNat = 3 from rfl, zbd (by decide)]; rfl
theorem yas : zb6 0 = [0] := by rw [zb6, show (0 : Int).toNat = 0 from rfl, zbd (by decide)]; rfl
theorem yli : zbv (zdq []) = [3, 0] := by
 rw [zdq, zan, if_neg (by decide), if_neg (by decide), zb1]
 show _ ++ (zb6 0 ++ _) = _
 rw [yas]; rfl
theorem yem {n : Int} {b : UInt8} (h : zb6 n = [b]) : zbv (zdq [zgy n, zdq [], zdq []]) = [3, 3, 1, b, 3, 0, 3, 0] := by
 rw [zdq, zan, if_neg (by decide), if_neg (by decide), zb1, zb1, zb1, zb1]
 show _ ++ (zb6 3 ++ (_ ++ (_ ++ (_ ++ _)))) = _
 have e : zbv (zgy n) = [1, b] := by rw [zgy, zan, if_pos rfl, h]; rfl
 have e' : zbv (.mk 3 0 [] []) = [3, 0] := yli
 rw [yrk, e, show zbv (zdq []) = [3, 0] from yli]; rfl
theorem yp8 (n : Int) : zfo (zdq [zgy n, zdq [], zdq []]) = true := by simp [zdq, zgy, zfo, zdi]
theorem yp7 (n : Int) : zdf (zdq [zgy n, zdq [], zdq []]) <= 6 := by
 simp only [zdq, zgy, zdf, zb2]
 split <;> decide
theorem yjo {n : Int} {b : UInt8} (h : zb6 n = [b]) : cfE ⟨n, [], []⟩ = 0 /\ cfT ⟨n, [], []⟩ = [3, 3, 1, b, 3, 0, 3, 0] := by
 have h1 : zsh (ztv ⟨n, [], []⟩) = 0 := by
   show zsh (zdq [zgy n, zdq [], zdq []]) = 0
   have := yp7 n
   rw [zsh, if_pos (yp8 n), if_neg (by omega), yem h]; rfl
 have h2 : cfE ⟨n, [], []⟩ = 0 := h1
 refine ⟨h2, ?_⟩
 rw [cfT, if_pos h2, (yry h1).2.2.2]
 exact yem h
theorem yrx (n : Int) : zo5 (.agg [.int .u64 n, .nils, .nils]) = ⟨n, [], []⟩ := rfl
theorem ykv (n : Int) : zst (.agg [.int .u64 n, .nils, .nils]) := ⟨rfl, ⟨_, rfl⟩, trivial, trivial⟩
theorem yc4 {n : Int} (h : zcr n) : yfr ⟨n, [], []⟩ := ⟨rfl, h, (fun l hl => nomatch hl), (fun l hl => nomatch hl)⟩
theorem zz8 : za9 Tryz.prog 45 [] (.bool true) := by
 refine za6 (T := tt) (S := fun L => zam [yq2 L, tru 66, tru 67]) (lo := noA) (lb := noA) 5 (fn := Tryz.f45) rfl rfl (by kernel_rfl) (by kernel_rfl) rfl zab (za2 ⟨yk1, zbw zzl, zbw zzk, trivial⟩) (by kernel_rfl) ?_
 intro L P' Q' hL hP hQ
 (cbv; try simp only [syT, true_and, and_true])
 (subst hL; subst hQ; simp only [L2, L3, std] at *; try simp only [syS, reduceCtorEq, Int.reduceToNat, Int.reduceAdd, Int.reduceSub] at *)
 simp only [yrx, (yjo yar).1, (yjo yar).2, (yjo yas).1, (yjo yas).2]
 exact ⟨⟨ykv 1, yc4 ⟨by decide, by decide⟩⟩, ⟨ykv 0, yc4 ⟨by decide, by decide⟩⟩, fun _ => ⟨fun _ => ⟨fun _ => trivial, trivial⟩, trivial⟩, trivial⟩
end Sy
end Go.Proofs.YtogpolfhcbgcbaaGreatDoor
namespace Go.Proofs.YtogpolfhcbgcbaaGreatDoor
namespace Sy
open Go Go.RowKit
set_option maxRecDepth 100000
set_option linter.unusedSimpArgs false
set_option linter.unusedVariables false
theorem zu7 : za9 Tryz.prog 22 [] (.bool true) := by
 refine za6 (T := tt) (S := fun L => zam [tru 43]) (lo := noA) (lb := noA) 5 (fn := Tryz.f22) rfl rfl (by kernel_rfl) (by kernel_rfl) rfl zab (za2 ⟨zbw zzc, trivial⟩) (by kernel_rfl) ?_
 intro L P' Q' hL hP hQ
 (cbv; try simp only [syT, true_and, and_true])
 subst hL; subst hQ
 rw [zak]
theorem zu5 : za9 Tryz.prog 24 [] (.bool true) := by
 refine za6 (T := tt) (S := fun L => zam [tru 45]) (lo := noA) (lb := noA) 5 (fn := Tryz.f24) rfl rfl (by kernel_rfl) (by kernel_rfl) rfl zab (za2 ⟨zbw zz8, trivial⟩) (by kernel_rfl) ?_
 intro L P' Q' hL hP hQ
 (cbv; try simp only [syT, true_and, and_true])
 subst hL; subst hQ
 rw [zak]
def exC : Mb := ⟨[⟨[42, 46, 98], [47], [], 0⟩, ⟨[97, 46, 98], [47], [], 0⟩], [97, 46, 98], [47, 120]⟩
theorem zwa : zd3 [47, 120] = 0 := by
 unfold zd3
 rw [if_neg, if_neg]
 · decide
 · rintro (h | h | h)
   · revert h; decide
   · obtain ⟨j, hj, h1, h2⟩ := h
     have hj : j + 1 < 2 := hj
     obtain rfl : j = 0 := by omega
     revert h2; decide
   · revert h; decide
theorem ytp : rk1 (mbQ exC 0) = 3 /\ rk2 (mbQ exC 0) = 0 := by
 have hm : mtB (mbQ exC 0) = true := by
   show (decide (zd3 [47, 120] = 0) && (zru [42, 46, 98] [97, 46, 98] && zww [47] [47, 120])) = true
   rw [zwa]
   decide +kernel
 unfold rk1 rk2
 rw [if_pos hm, if_pos hm]
 exact ⟨by decide +kernel, by decide +kernel⟩
theorem yto : rk1 (mbQ exC 1) = 4 /\ rk2 (mbQ exC 1) = 0 := by
 have hm : mtB (mbQ exC 1) = true := by
   show (decide (zd3 [47, 120] = 0) && (zru [97, 46, 98] [97, 46, 98] && zww [47] [47, 120])) = true
   rw [zwa]
   decide +kernel
 unfold rk1 rk2
 rw [if_pos hm, if_pos hm]
 exact ⟨by decide +kernel, by decide +kernel⟩
theorem zwb : bsN exC 2 = ⟨1, true, 4, 0⟩ := by
 have h1 : bsN exC 1 = ⟨0, true, 3, 0⟩ := by
   rw [bsN, ytp.1, ytp.2]
   show (if zh8 3 0 (bsN exC 0).x (bsN exC 0).y = true then _ else _) = _
   rw [bsN]
   rfl
 rw [bsN, yto.1, yto.2, h1]
 rfl
theorem ytn : yl1 exC := ⟨by decide, by decide, by decide, fun r hr => by
 have hr : r ∈ [(⟨[42, 46, 98], [47], [], 0⟩ : Rt), ⟨[97, 46, 98], [47], [], 0⟩] := hr
 simp only [List.mem_cons, List.not_mem_nil, or_false] at hr
 rcases hr with rfl | rfl <;> exact ⟨by decide, by decide⟩⟩
theorem zz7 : za9 Tryz.prog 6 [] (.bool true) := by
 refine za6 (T := tt) (S := fun L => zam [yq3 L, tru 22, tru 23, tru 24]) (lo := noA) (lb := noA) 5 (fn := Tryz.f6) rfl rfl (by kernel_rfl) (by kernel_rfl) rfl zab (za2 ⟨yk2, zbw zu7, zbw zu6, zbw zu5, trivial⟩) (by kernel_rfl) ?_
 intro L P' Q' hL hP hQ
 (cbv; try simp only [syT, true_and, and_true])
 subst hL; subst hQ
 have eB : bsB exC = 1 := by show (bsN exC 2).b = 1; rw [zwb]
 have eS : bsS exC = true := by show (bsN exC 2).s = true; rw [zwb]
 refine ⟨⟨?_, ytn⟩, fun _ => ⟨fun _ => ⟨fun _ => ⟨fun _ => ?_, fun h => absurd (eS.symm.trans h) (by decide)⟩, fun h => (by cases h)⟩, fun h => (by cases h)⟩, fun h => (by cases h)⟩
 · refine ⟨rfl, ⟨_, rfl⟩, ⟨⟨_, rfl⟩, ⟨_, rfl⟩, ⟨_, rfl⟩, ⟨_, rfl⟩, ⟨_, rfl⟩⟩, rfl, fun i hi => ?_⟩
   match i, hi with
   | 0, _ => exact ⟨⟨_, rfl⟩, ⟨_, rfl⟩, ⟨_, rfl⟩, ⟨_, rfl⟩⟩
   | 1, _ => exact ⟨⟨_, rfl⟩, ⟨_, rfl⟩, ⟨_, rfl⟩, ⟨_, rfl⟩⟩
 · rw [zak]
   show ieq (bsB exC) 1 = true
   rw [eB]; rfl
end Sy
end Go.Proofs.YtogpolfhcbgcbaaGreatDoor
namespace Go.Proofs.YtogpolfhcbgcbaaGreatDoor
namespace Sy
open Go Go.RowKit
set_option maxRecDepth 100000
set_option linter.unusedSimpArgs false
set_option linter.unusedVariables false
def zs9 (L : za7) : zbf := (26, fun xs => match xs with
 | [.str s] => some (L2 L upto 9223372036854775807 s, .str (L zf7 s))
 | _ => none)
theorem zxq : zaz Tryz.prog (zs9 std) := by
 intro xs p r h hp
 dsimp only [zs9] at h |-
 split at h <;> cases h
 try simp only [L2, L3, std] at hp |-
 rename_i s
 have hz : s.length <= 9223372036854775807 := hp
 refine za5 (T := tt) (S := fun L => noS L) (lo := fun L => ymq L s) (lb := noA) 5 (fn := Tryz.f26) (xs := fun L => [.str s]) rfl rfl (by kernel_rfl) (by kernel_rfl) rfl zab (zc4 _) (by kernel_rfl) ?_
 intro L P' Q' hL hP hQ
 (cbv; try simp only [syT, true_and, and_true])
 refine ⟨⟨0, ?_⟩, fun i hi => ?_⟩
 · (cbv; try simp only [syT, true_and, and_true])
   (subst hL; subst hQ; simp only [L2, L3, std] at *; try simp only [syS, reduceCtorEq, Int.reduceToNat, Int.reduceAdd, Int.reduceSub] at *)
   exact ⟨by simp [ygb, zf7], Nat.zero_le _⟩
 · have hi2 : i <= s.length := by
     have h := hi
     rw [hL] at h
     exact h
   clear hi
   have hll : (ygb s i).length <= i := by
     unfold ygb zf7
     rw [List.length_map, List.length_take]
     exact Nat.min_le_left _ _
   (cbv; try simp only [syT, true_and, and_true])
   have hc : L (L zgk s) (L zac i) = za8 s i := by subst hL; rfl
   rw [hc]
   have one : ∀ x : Int, zbc 1 (fun k => (AV.int .u8 (zk1 [x] (0 + k))).toI) = [UInt8.ofNat x.toNat] := fun x => rfl
   refine ⟨fun hlt => ⟨?_, fun h1 => ⟨fun h2 => ⟨⟨?_, fun k hk => ⟨_, rfl⟩⟩, ?_, i + 1, ?_⟩, fun h2 => ⟨⟨?_, fun k hk => ⟨_, rfl⟩⟩, ?_, i + 1, ?_⟩⟩, fun h1 => ⟨⟨?_, fun k hk => ⟨_, rfl⟩⟩, ?_, i + 1, ?_⟩⟩, fun hge => ?_⟩
   · (subst hL; subst hQ; simp only [L2, L3, std] at *; try simp only [syS, reduceCtorEq, Int.reduceToNat, Int.reduceAdd, Int.reduceSub] at *)
     omega
   · (subst hL; subst hQ; simp only [L2, L3, std] at *; try simp only [syS, reduceCtorEq, Int.reduceToNat, Int.reduceAdd, Int.reduceSub] at *)
     omega
   · (subst hL; subst hQ; simp only [L2, L3, std] at *; try simp only [syS, reduceCtorEq, Int.reduceToNat, Int.reduceAdd, Int.reduceSub] at *)
     simp only [one, List.length_singleton]
     omega
   · (cbv; try simp only [syT, true_and, and_true])
     (subst hL; subst hQ; simp only [L2, L3, std] at *; try simp only [syS, reduceCtorEq, Int.reduceToNat, Int.reduceAdd, Int.reduceSub] at *)
     refine ⟨?_, by omega, by show i + 1 <= s.length; omega, by show s.length - (i + 1) + 1 <= s.length - i; omega⟩
     rw [one, zlb (by omega), ygd, if_pos ⟨h1, h2⟩, show (za8 s i + 32) % 256 = za8 s i + 32 by omega]
   · (subst hL; subst hQ; simp only [L2, L3, std] at *; try simp only [syS, reduceCtorEq, Int.reduceToNat, Int.reduceAdd, Int.reduceSub] at *)
     omega
   · (subst hL; subst hQ; simp only [L2, L3, std] at *; try simp only [syS, reduceCtorEq, Int.reduceToNat, Int.reduceAdd, Int.reduceSub] at *)
     simp only [one, List.length_singleton]
     omega
   · (cbv; try simp only [syT, true_and, and_true])
     (subst hL; subst hQ; simp only [L2, L3, std] at *; try simp only [syS, reduceCtorEq, Int.reduceToNat, Int.reduceAdd, Int.reduceSub] at *)
     refine ⟨?_, by omega, by show i + 1 <= s.length; omega, by show s.length - (i + 1) + 1 <= s.length - i; omega⟩
     rw [one, zlb (by omega), ygd, if_neg (by omega)]
   · (subst hL; subst hQ; simp only [L2, L3, std] at *; try simp only [syS, reduceCtorEq, Int.reduceToNat, Int.reduceAdd, Int.reduceSub] at *)
     omega
   · (subst hL; subst hQ; simp only [L2, L3, std] at *; try simp only [syS, reduceCtorEq, Int.reduceToNat, Int.reduceAdd, Int.reduceSub] at *)
     simp only [one, List.length_singleton]
     omega
   · (cbv; try simp only [syT, true_and, and_true])
     (subst hL; subst hQ; simp only [L2, L3, std] at *; try simp only [syS, reduceCtorEq, Int.reduceToNat, Int.reduceAdd, Int.reduceSub] at *)
     refine ⟨?_, by omega, by show i + 1 <= s.length; omega, by show s.length - (i + 1) + 1 <= s.length - i; omega⟩
     rw [one, zlb (by omega), ygd, if_neg (by omega)]
   · (subst hL; subst hQ; simp only [L2, L3, std] at *; try simp only [syS, reduceCtorEq, Int.reduceToNat, Int.reduceAdd, Int.reduceSub] at *)
     exact yih (by omega)
end Sy
end Go.Proofs.YtogpolfhcbgcbaaGreatDoor
namespace Go.Proofs.YtogpolfhcbgcbaaGreatDoor
namespace Sy
open Go Go.RowKit
set_option maxRecDepth 100000
set_option linter.unusedSimpArgs false
set_option linter.unusedVariables false
def zo3 (L : za7) : zbf := (25, fun xs => match xs with
 | [.str s] => some (L2 L upto 9223372036854775807 s, .int .i64 (L zfy s))
 | _ => none)
theorem zsa : zaz Tryz.prog (zo3 std) := by
 intro xs p r h hp
 dsimp only [zo3] at h |-
 split at h <;> cases h
 try simp only [L2, L3, std] at hp |-
 rename_i s
 have hp : s.length <= 9223372036854775807 := hp
 refine za5 (T := tt) (S := fun L => zam [ybw L, zs8 L]) (lo := fun L => yrs L s) (lb := noA) 5 (fn := Tryz.f25) (xs := fun L => [.str s]) rfl rfl (by kernel_rfl) (by kernel_rfl) rfl zab (za2 ⟨ybx, zxo, trivial⟩) (by kernel_rfl) ?_
 intro L P' Q' hL hP hQ
 (cbv; try simp only [syT, true_and, and_true])
 repeat' first | refine And.intro ?_ ?_ | refine fun (hh : (_ : Bool) = _) => ?_
 all_goals try (refine ⟨0, ?_⟩; (cbv; try simp only [syT, true_and, and_true]))
 all_goals try
   (intro i hi
    cbv at hi
    (cbv; try simp only [syT, true_and, and_true])
    repeat' first | refine And.intro ?_ ?_ | refine fun (hh : (_ : Bool) = _) => ?_
    all_goals try (refine ⟨i + 1, ?_⟩; (cbv; try simp only [syT, true_and, and_true])))
 all_goals (subst hL; subst hQ; simp only [L2, L3, std] at *; try simp only [syS, reduceCtorEq, Int.reduceToNat, Int.reduceAdd, Int.reduceSub] at *)
 all_goals have hls : yd6 (spC s 46) = (zae s [46]).length := rfl
 all_goals have hsp := yam s
 all_goals try
   (have g1 : ¬ ((s.length : Nat) : Int) = 0 := by assumption
    have g1 : ¬ s = [] := fun h => g1 (by rw [h]; rfl)
    have g2 : ((s.length : Nat) : Int) <= 64 := by assumption
    have g2 : s.length <= 64 := by omega)
 all_goals first
   | exact (if_pos (List.eq_nil_of_length_eq_zero (by omega))).symm
   | (have g1 : ¬ ((s.length : Nat) : Int) = 0 := by assumption
      have g1 : ¬ s = [] := fun h => g1 (by rw [h]; rfl)
      have g2 : 64 < s.length := by omega
      exact (by rw [zfy, if_neg g1, if_pos g2] : zfy s = 5).symm)
   | (show s.length <= 1000000; omega)
   | (show s.length <= 1000000000; omega)
   | exact hp
   | exact ⟨by decide, by decide⟩
   | exact ⟨by omega, by omega⟩
   | exact ⟨Nat.zero_le _, fun k hk => by omega⟩
   | exact Nat.le_trans (yck _ _ i) (by omega)
   | (refine (yvr g1 g2 (i := i) (by omega) ?_).symm
      rintro (q | ⟨q1, q2, q3⟩)
      · have r : ze8 (zec (spC s 46) i) = false := by assumption
        exact absurd (r.symm.trans q) (by decide)
      · first
          | exact absurd (show zec (spC s 46) i = [42] from q1) (by assumption)
          | omega)
   | (refine (yrt g1 g2 hi (by omega)).symm)
   | (refine ⟨by omega, ybm hi (show i < (zae s [46]).length by omega) (.inl (show ze8 (zec (spC s 46) i) = true by assumption)), ?_⟩
      show (zae s [46]).length - (i + 1) + 1 <= (zae s [46]).length - i
      omega)
   | (refine ⟨by omega, ybm hi (show i < (zae s [46]).length by omega) (.inr ⟨show zec (spC s 46) i = [42] by assumption, by omega, show 1 < (zae s [46]).length by omega⟩), ?_⟩
      show (zae s [46]).length - (i + 1) + 1 <= (zae s [46]).length - i
      omega)
end Sy
end Go.Proofs.YtogpolfhcbgcbaaGreatDoor
namespace Go.Proofs.YtogpolfhcbgcbaaGreatDoor
namespace Sy
open Go Go.RowKit
set_option maxRecDepth 100000
set_option linter.unusedSimpArgs false
set_option linter.unusedVariables false
noncomputable def hrB (r : Rt) : Bool := decide (zfy (zf7 r.h) = 0) && decide (r.p.length <= 300)
noncomputable def ydw (l : Ls) (host : List UInt8) : Bool := decide (zfy (zf7 host) = 0) && (decide (l.rs.length <= 20) && l.rs.all hrB)
def yoa (l : Ls) (host : List UInt8) : Prop := host.length <= 9223372036854775807 /\ ∀ r ∈ l.rs, r.h.length <= 9223372036854775807
noncomputable def hsI (l : Ls) (i : Nat) : Prop := i <= l.rs.length /\ ∀ j, j < i -> hrB (zbk l.rs j) = true
def hsMu (l : Ls) (i : Nat) : Nat := l.rs.length - i
noncomputable def hsA (L : za7) (l : Ls) : Nat -> St -> Option Ann := fun id st => match id with
 | 0 => some ⟨Nat, fun i => [(20, .int .i64 (L zac i))], fun i => [], [18, 19], [], fun i => L2 L hsI l i, fun i => L2 L hsMu l i⟩
 | _ => none
noncomputable def yo9 (L : za7) : zbf := (7, fun xs => match xs with
 | [x, .str host] => some (L zj5 x /\ L2 L yoa (L zcw x) host, .bool (L2 L ydw (L zcw x) host))
 | _ => none)
theorem yj1 : zaz Tryz.prog (yo9 std) := by
 intro xs p r h hp
 dsimp only [yo9] at h |-
 split at h <;> cases h
 try simp only [L2, L3, std] at hp |-
 rename_i x host
 obtain ⟨ho, hok⟩ := hp
 refine zws zd0 ho ?_
 have hok : yoa (zcw x) host := hok
 show za9 Tryz.prog 7 (.agg ((List.range 7).map (lsC std (zcw x))) :: .str host :: []) (.bool (ydw (zcw x) host))
 generalize zcw x = l at hok |-
 obtain ⟨h1, h2⟩ := hok
 refine za5 (T := tt) (S := fun L => zam [zs9 L, zo3 L]) (lo := fun L => hsA L l) (lb := noA) 5 (fn := Tryz.f7) (xs := fun L => [.agg [lsC L l 0, lsC L l 1, lsC L l 2, lsC L l 3, lsC L l 4, lsC L l 5, lsC L l 6], .str host]) rfl rfl (by kernel_rfl) (by kernel_rfl) rfl zab (za2 ⟨zxq, zsa, trivial⟩) (by kernel_rfl) ?_
 intro L P' Q' hL hP hQ
 have hll : ∀ s : List UInt8, (zf7 s).length = s.length := fun s => by simp [zf7]
 have no : ¬ (zfy (zf7 host) = 0 /\ l.rs.length <= 20 /\ ∀ r ∈ l.rs, hrB r = true) -> ydw l host = false := fun h => by
   refine Bool.eq_false_iff.2 fun h2 => h ?_
   unfold ydw at h2
   simp only [Bool.and_eq_true, decide_eq_true_eq, List.all_eq_true] at h2
   exact h2
 (cbv; try simp only [syT, true_and, and_true])
 refine ⟨?_, ?_, fun k1 => ?_, fun k1 => ⟨fun k2 => ?_, fun k2 => ⟨⟨0, ?_⟩, fun i hi => ?_⟩⟩⟩
 · subst hL; exact h1
 · subst hL
   show (zf7 host).length <= 9223372036854775807
   rw [hll]; exact h1
 · subst hL; subst hQ
   have k1 : ine (zfy (zf7 host)) 0 = true := k1
   rw [yiv] at k1
   rw [zak]
   exact (no fun h => k1 h.1).symm
 · subst hL; subst hQ
   have k2 : ilt 20 (zac l.rs.length) = true := k2
   rw [zfv, zaa] at k2
   rw [zak]
   exact (no fun h => by have := h.2.1; omega).symm
 · (cbv; try simp only [syT, true_and, and_true])
   subst hL
   exact ⟨fun _ _ _ _ => trivial, rfl, Nat.zero_le _, fun j hj => by omega⟩
 · obtain ⟨hi1, hi2⟩ : hsI l i := by
     have h := hi
     rw [hL] at h
     exact h
   clear hi
   obtain ⟨i', hi'⟩ : ∃ i', i' = i + 1 := ⟨_, rfl⟩
   (cbv; try simp only [syT, true_and, and_true])
   have c20 : l.rs.length <= 20 := by
     have h := k2
     rw [hL] at h
     have h : ilt 20 (zac l.rs.length) = false := h
     rw [zju, zaa] at h
     omega
   refine ⟨fun hlt => ?_, fun hge => ?_⟩
   · have hl : i < l.rs.length := by
       have h := hlt
       rw [hL] at h
       have h : ilt (zac i) (zac l.rs.length) = true := h
       rw [zfv, zaa, zaa] at h
       omega
     have hat : zbk l.rs i = l.rs[i] := zav hl
     have hm : zbk l.rs i ∈ l.rs := by rw [hat]; exact List.getElem_mem hl
     have hr := h2 _ hm
     refine ⟨?_, ?_, ?_, fun k3 => ?_, fun k3 => ⟨fun k4 => ?_, fun k4 => ⟨i', ?_⟩⟩⟩
     · subst hL
       show inR (zac i) (zac l.rs.length) = true
       rw [zmg, zaa, zaa]; omega
     · subst hL; exact hr
     · subst hL
       show (zf7 (zbk l.rs i).h).length <= 9223372036854775807
       rw [hll]; exact hr
     · subst hL; subst hQ
       have k3 : ine (zfy (zf7 (zbk l.rs i).h)) 0 = true := k3
       rw [yiv] at k3
       rw [zak]
       refine (no fun h => ?_).symm
       have := h.2.2 _ hm
       unfold hrB at this
       simp only [Bool.and_eq_true, decide_eq_true_eq] at this
       exact k3 this.1
     · subst hL; subst hQ
       have k4 : ilt 300 (slen (zbk l.rs i).p) = true := k4
       rw [zfv, ziw] at k4
       rw [zak]
       refine (no fun h => ?_).symm
       have := h.2.2 _ hm
       unfold hrB at this
       simp only [Bool.and_eq_true, decide_eq_true_eq] at this
       have := this.2
       omega
     · (cbv; try simp only [syT, true_and, and_true])
       subst hL
       have k3 : ine (zfy (zf7 (zbk l.rs i).h)) 0 = false := k3
       have k4 : ilt 300 (slen (zbk l.rs i).p) = false := k4
       rw [ydh] at k3
       rw [zju, ziw] at k4
       refine ⟨fun _ _ _ _ => trivial, ?_, ⟨?_, fun j hj => ?_⟩, ?_⟩
       · show zhj .i64 (zac i) 1 = zac i'
         unfold zhj zac
         rw [zio]; omega
       · omega
       · by_cases hj2 : j < i
         · exact hi2 j hj2
         · have : j = i := by omega
           subst this
           unfold hrB
           rw [decide_eq_true k3, decide_eq_true (by omega)]; rfl
       · show l.rs.length - i' < l.rs.length - i
         omega
   · have hie : i = l.rs.length := by
       have h := hge
       rw [hL] at h
       have h : ilt (zac i) (zac l.rs.length) = false := h
       rw [zju, zaa, zaa] at h
       omega
     subst hL; subst hQ
     have k1 : ine (zfy (zf7 host)) 0 = false := k1
     rw [ydh] at k1
     rw [zak]
     show true = ydw l host
     unfold ydw
     rw [decide_eq_true k1, decide_eq_true c20, Bool.true_and, Bool.true_and]
     refine (List.all_eq_true.2 fun r hr => ?_).symm
     obtain ⟨j, hj, rfl⟩ := List.getElem_of_mem hr
     have := hi2 j (by omega)
     rw [show zbk l.rs j = l.rs[j] from zav hj] at this
     exact this
end Sy
end Go.Proofs.YtogpolfhcbgcbaaGreatDoor
namespace Go.Proofs.YtogpolfhcbgcbaaGreatDoor
namespace Sy
open Go Go.RowKit
set_option maxRecDepth 100000
set_option linter.unusedSimpArgs false
set_option linter.unusedVariables false
theorem zqu {s : List UInt8} (h : zfy s = 0) : s ≠ [] /\ s.length <= 64 := by
 unfold zfy at h
 split at h
 · cases h
 · rename_i h1
   split at h
   · cases h
   · rename_i h2
     exact ⟨h1, by omega⟩
theorem yl7 {l : Ls} {host path : List UInt8} (h : ydw l host = true) (hp : path.length <= 300) : yl1 ⟨l.rs, host, path⟩ /\ l.rs.length <= 20 /\ host ≠ [] := by
 have hll : ∀ s : List UInt8, (zf7 s).length = s.length := fun s => by simp [zf7]
 unfold ydw at h
 simp only [Bool.and_eq_true, decide_eq_true_eq, List.all_eq_true] at h
 obtain ⟨h1, h2, h3⟩ := h
 obtain ⟨e1, e2⟩ := zqu h1
 rw [hll] at e2
 refine ⟨⟨?_, ?_, ?_, fun r hr => ?_⟩, h2, fun e => e1 (by rw [e]; rfl)⟩
 · show l.rs.length <= 1000000
   omega
 · show host.length <= 900000
   omega
 · show path.length <= 900000
   omega
 · have := h3 r hr
   unfold hrB at this
   simp only [Bool.and_eq_true, decide_eq_true_eq] at this
   obtain ⟨_, q2⟩ := zqu this.1
   rw [hll] at q2
   exact ⟨by omega, by omega⟩
end Sy
end Go.Proofs.YtogpolfhcbgcbaaGreatDoor
namespace Go.Proofs.YtogpolfhcbgcbaaGreatDoor
namespace Sy
open Go Go.RowKit
set_option maxRecDepth 100000
set_option linter.unusedSimpArgs false
set_option linter.unusedVariables false
theorem yd5 {a b x y : Int} : zh8 a b x y = true ↔ x < a \/ a = x /\ y < b := by
 unfold zh8
 simp only [Bool.or_eq_true, Bool.and_eq_true, decide_eq_true_eq]
theorem zoo {a b x y : Int} : zh8 a b x y = false ↔ a < x \/ a = x /\ b <= y := by
 rw [Bool.eq_false_iff, ne_eq, yd5]
 omega
end Sy
end Go.Proofs.YtogpolfhcbgcbaaGreatDoor
namespace Go.Proofs.YtogpolfhcbgcbaaGreatDoor
namespace Sy
open Go Go.RowKit
set_option linter.unusedSimpArgs false
set_option linter.unusedVariables false
section
variable {α : Type} (lt : α -> α -> Bool)
def zrs (x : α) (l : List α) : Nat -> Nat
 | 0 => 0
 | k + 1 => match l[k]? with
   | some y => if lt x y = true then zrs x l k else k + 1
   | none => k + 1
def zut (l : List α) (x : α) : List α := l.take (zrs lt x l l.length) ++ x :: l.drop (zrs lt x l l.length)
def ziu (l : List α) : List α := l.foldl (zut lt) []
theorem yc2 (x : α) (l : List α) : ∀ k, zrs lt x l k <= k
 | 0 => Nat.le_refl _
 | k + 1 => by
   unfold zrs
   split
   · split
     · exact Nat.le_succ_of_le (yc2 x l k)
     · exact Nat.le_refl _
   · exact Nat.le_refl _
theorem yc3 {x : α} {l : List α} {j : Nat} : ∀ {k : Nat}, j <= k -> k <= l.length -> (∀ q y, j <= q -> q < k -> l[q]? = some y -> lt x y = true) -> (∀ y, l[j - 1]? = some y -> 0 < j -> lt x y = false) -> zrs lt x l k = j
 | 0, h1, _, _, _ => by
   have : j = 0 := by omega
   rw [this]; rfl
 | k + 1, h1, h2, h3, h4 => by
   unfold zrs
   have hk : l[k]? = some l[k] := List.getElem?_eq_getElem (by omega)
   rw [hk]
   simp only
   by_cases e : j = k + 1
   · subst e
     have := h4 l[k] (by rw [Nat.add_sub_cancel]; exact hk) (by omega)
     rw [if_neg (by rw [this]; decide)]
   · rw [if_pos (h3 k _ (by omega) (by omega) hk)]
     exact yc3 (by omega) (by omega) (fun q y a b c => h3 q y a (by omega) c) h4
theorem yc0 (l : List α) (x : α) : (zut lt l x).Perm (x :: l) := by
 unfold zut
 refine List.perm_middle.trans ?_
 rw [List.take_append_drop]
theorem yai (l : List α) (x : α) : ziu lt (l ++ [x]) = zut lt (ziu lt l) x := by
 unfold ziu
 rw [List.foldl_append]; rfl
theorem zpq (l : List α) : (ziu lt l).Perm l := by
 have key : ∀ (l acc : List α), (l.foldl (zut lt) acc).Perm (acc ++ l) := by
   intro l
   induction l with
   | nil => intro acc; simp
   | cons x l ih =>
     intro acc
     refine (ih _).trans ?_
     refine ((yc0 lt acc x).append_right l).trans ?_
     exact (List.perm_middle (l₁ := acc) (l₂ := l) (a := x)).symm
 exact key l []
theorem zug (l : List α) : (ziu lt l).length = l.length := (zpq lt l).length_eq
theorem znx {l : List α} {x : α} : x ∈ ziu lt l ↔ x ∈ l := (zpq lt l).mem_iff
theorem zhn {l : List α} {i : Nat} (hi : i < l.length) : ziu lt (l.take (i + 1)) = zut lt (ziu lt (l.take i)) l[i] := by
 rw [List.take_succ_eq_append_getElem hi, yai]
theorem ygt (l : List α) : ziu lt (l.take 1) ++ l.drop 1 = l := by
 cases l with
 | nil => rfl
 | cons x l => simp [ziu, zut, zrs]
def zpz (m : List α) (x : α) (j : Nat) (r : List α) : List α := m.take j ++ x :: (m.drop j ++ r)
omit lt in
theorem yhf (m : List α) (x : α) (j : Nat) (r : List α) : (zpz m x j r).length = m.length + 1 + r.length := by
 unfold zpz
 rw [List.length_append, List.length_cons, List.length_append, List.length_take, List.length_drop]
 omega
omit lt in
theorem yhg (m : List α) (x : α) (r : List α) : zpz m x m.length r = m ++ x :: r := by
 unfold zpz
 rw [List.take_length, List.drop_length, List.nil_append]
omit lt in
theorem ybk {m : List α} {x : α} {j : Nat} {r : List α} (hj : j <= m.length) : (zpz m x j r)[j]? = some x := by
 unfold zpz
 rw [List.getElem?_append_right (by rw [List.length_take]; omega), List.length_take, Nat.min_eq_left hj, Nat.sub_self]
 rfl
omit lt in
theorem zkr {m : List α} {x : α} {j q : Nat} {r : List α} (hj : j <= m.length) (hq : q < j) : (zpz m x j r)[q]? = m[q]? := by
 unfold zpz
 rw [List.getElem?_append_left (by rw [List.length_take]; omega), List.getElem?_take_of_lt hq]
omit lt in
theorem ybj {m : List α} {x y : α} {j : Nat} {r : List α} (hj : j < m.length) (hy : m[j]? = some y) : ((zpz m x (j + 1) r).set (j + 1) y).set j x = zpz m x j r := by
 have hl : (m.take j).length = j := by rw [List.length_take]; omega
 have hm : m.drop j = y :: m.drop (j + 1) := by
   rw [List.drop_eq_getElem_cons hj]
   rw [List.getElem?_eq_getElem hj] at hy
   rw [Option.some.inj hy]
 have ht : m.take (j + 1) = m.take j ++ [y] := by
   rw [List.take_add_one, hy]; rfl
 have e1 : zpz m x (j + 1) r = m.take j ++ y :: x :: (m.drop (j + 1) ++ r) := by
   unfold zpz; rw [ht, List.append_assoc]; rfl
 rw [e1]
 rw [List.set_append, if_neg (by omega), hl, Nat.add_sub_cancel_left]
 rw [List.set_append, if_neg (by omega), hl, Nat.sub_self]
 unfold zpz
 rw [hm]
 rfl
theorem ybz {m : List α} {x : α} {j : Nat} {r : List α} (hj : j <= m.length) (h3 : ∀ q y, j <= q -> q < m.length -> m[q]? = some y -> lt x y = true) (h4 : ∀ y, m[j - 1]? = some y -> 0 < j -> lt x y = false) : zpz m x j r = zut lt m x ++ r := by
 unfold zut
 rw [yc3 lt hj (Nat.le_refl _) h3 h4]
 unfold zpz
 rw [List.append_assoc, List.cons_append]
def ygx (l : List α) (i : Nat) : List α := ziu lt (l.take i) ++ l.drop i
theorem ygv (l : List α) : ygx lt l 1 = l := ygt lt l
theorem ygw {l : List α} {i : Nat} (h : l.length <= i) : ygx lt l i = ziu lt l := by
 unfold ygx
 rw [List.take_of_length_le h, List.drop_of_length_le h, List.append_nil]
def zhg (l : List α) (d : α) (i j : Nat) : List α := zpz (ziu lt (l.take i)) (l.getD i d) j (l.drop (i + 1))
def ziv (l : List α) (d : α) (i j : Nat) : Prop := j <= i /\ ∀ q y, j <= q -> q < i -> (ziu lt (l.take i))[q]? = some y -> lt (l.getD i d) y = true
omit lt in
theorem zox {l : List α} {d : α} {i : Nat} (hi : i < l.length) : l.getD i d = l[i] := by
 rw [List.getD_eq_getElem?_getD, List.getElem?_eq_getElem hi]; rfl
theorem zhm {l : List α} {i : Nat} (hi : i <= l.length) : (ziu lt (l.take i)).length = i := by
 rw [zug, List.length_take]; omega
theorem zuh {l : List α} {d : α} {i j : Nat} (hi : i < l.length) : (zhg lt l d i j).length = l.length := by
 unfold zhg
 rw [yhf, zhm lt (by omega), List.length_drop]; omega
theorem zwz {l : List α} {d : α} {i : Nat} (hi : i < l.length) : zhg lt l d i i = ygx lt l i /\ ziv lt l d i i := by
 refine ⟨?_, Nat.le_refl _, fun q y h1 h2 => by omega⟩
 have := yhg (ziu lt (l.take i)) (l.getD i d) (l.drop (i + 1))
 rw [zhm lt (by omega)] at this
 unfold zhg ygx
 rw [this, zox hi, <- List.drop_eq_getElem_cons hi]
theorem yal {l : List α} {d : α} {i j : Nat} (hi : i < l.length) (h : ziv lt l d i j) (h4 : 0 < j -> ∀ y, (ziu lt (l.take i))[j - 1]? = some y -> lt (l.getD i d) y = false) : zhg lt l d i j = ygx lt l (i + 1) := by
 have hl := zhm lt (show i <= l.length by omega)
 unfold zhg ygx
 rw [ybz lt (by rw [hl]; exact h.1) (fun q y a b c => h.2 q y a (by omega) c) (fun y a b => h4 b y a), zhn lt hi, zox hi]
theorem yak {l : List α} {d : α} {i j : Nat} (hi : i < l.length) (h : ziv lt l d i (j + 1)) (hlt : lt ((zhg lt l d i (j + 1)).getD (j + 1) d) ((zhg lt l d i (j + 1)).getD j d) = true) :
   (((zhg lt l d i (j + 1)).set (j + 1) ((zhg lt l d i (j + 1)).getD j d)).set j ((zhg lt l d i (j + 1)).getD (j + 1) d) = zhg lt l d i j) /\ ziv lt l d i j := by
 have hl := zhm lt (show i <= l.length by omega)
 have h1 := h.1
 obtain ⟨y, hy⟩ : ∃ y, (ziu lt (l.take i))[j]? = some y := ⟨_, List.getElem?_eq_getElem (by omega)⟩
 have e1 : (zhg lt l d i (j + 1)).getD (j + 1) d = l.getD i d := by
   rw [List.getD_eq_getElem?_getD]
   unfold zhg
   rw [ybk (by omega)]; rfl
 have e2 : (zhg lt l d i (j + 1)).getD j d = y := by
   rw [List.getD_eq_getElem?_getD]
   unfold zhg
   rw [zkr (by omega) (by omega), hy]; rfl
 rw [e1, e2] at hlt |-
 refine ⟨?_, by omega, fun q z a b c => ?_⟩
 · unfold zhg
   exact ybj (by omega) hy
 · by_cases e : q = j
   · subst e
     rw [hy] at c
     cases c
     exact hlt
   · exact h.2 q z (by omega) b c
theorem zpr {l : List α} {d : α} {i j : Nat} (hi : i < l.length) (h : ziv lt l d i j) (hlt : 0 < j -> lt ((zhg lt l d i j).getD j d) ((zhg lt l d i j).getD (j - 1) d) = false) : zhg lt l d i j = ygx lt l (i + 1) := by
 have hl := zhm lt (show i <= l.length by omega)
 have h1 := h.1
 refine yal lt hi h fun hj y hy => ?_
 have h2 := hlt hj
 have e1 : (zhg lt l d i j).getD j d = l.getD i d := by
   rw [List.getD_eq_getElem?_getD]
   unfold zhg
   rw [ybk (by omega)]; rfl
 have e2 : (zhg lt l d i j).getD (j - 1) d = y := by
   rw [List.getD_eq_getElem?_getD]
   unfold zhg
   rw [zkr (by omega) (by omega), hy]; rfl
 rw [e1, e2] at h2
 exact h2
theorem ygu {l : List α} {d : α} {i j q : Nat} (hi : i < l.length) (hq : q < l.length) : (zhg lt l d i j).getD q d ∈ l := by
 have hlen := zuh lt (d := d) (j := j) hi
 rw [zox (by omega)]
 have hm : (zhg lt l d i j)[q]'(by omega) ∈ zhg lt l d i j := List.getElem_mem _
 unfold zhg zpz at hm
 rw [List.mem_append, List.mem_cons, List.mem_append] at hm
 have hT : ∀ z, z ∈ ziu lt (l.take i) -> z ∈ l := fun z hz => List.mem_of_mem_take ((znx lt).1 hz)
 rcases hm with h | h | h | h
 · exact hT _ (List.mem_of_mem_take h)
 · rw [show (zhg lt l d i j)[q]'(by omega) = l.getD i d from h, zox hi]; exact List.getElem_mem _
 · exact hT _ (List.mem_of_mem_drop h)
 · exact List.mem_of_mem_drop h
end
theorem yat {α : Type} {V : Vw α} {l : List α} {e q : Nat} {x : α} (hq : q < l.length) : zik V (l.set e x) q = if e = q then x else zik V l q := by
 rw [zav (by rw [List.length_set]; exact hq), zav hq, List.getElem_set]
end Sy
end Go.Proofs.YtogpolfhcbgcbaaGreatDoor
namespace Go.Proofs.YtogpolfhcbgcbaaGreatDoor
namespace Sy
open Go Go.RowKit
set_option maxRecDepth 100000
set_option maxHeartbeats 4000000
set_option linter.unusedSimpArgs false
set_option linter.unusedVariables false
abbrev Iz := Int
def izC (L : za7) (x : Iz) (j : Nat) : AV := .int .i64 x
def izV : Vw Iz := ⟨1, izC, fun c => (c 0).toI, fun c => ∃ n, c 0 = .int .i64 n, 0⟩
theorem zvx : zrv izV := by
 refine ⟨fun c hc j hj h D μ v r => ?_, fun c x hx => ?_⟩
 · obtain ⟨s, hs⟩ := hc
   have hj : j < 1 := hj
   obtain rfl : j = 0 := by omega
   show R h D μ (.int .i64 (c 0).toI) v
   rw [hs] at r |-
   exact r
 · have h0 : c 0 = .int .i64 x := hx 0 (by decide)
   refine ⟨⟨x, h0⟩, ?_⟩
   show (c 0).toI = x
   rw [h0]; rfl
def zao (l : List Iz) (i : Nat) : Iz := zik izV l i
def ysm (L : za7) (l : List Iz) : AV := .lst 1 (L zcm l) (fun i => izC L (L (L zao l) i))
def ynb (x : AV) : Prop := okW izV x
def ybv (x : AV) : List Iz := rdW izV x
structure Mc where
 y : Ls
 host : List UInt8
 path : List UInt8
def mcB (c : Mc) : Mb := ⟨c.y.rs, c.host, c.path⟩
def zyb (c : Mc) : Prop := yl1 (mcB c)
def mcE (c : Mc) (a : Int) : Prop := 0 <= a /\ a < c.y.rs.length
noncomputable def mcZ (c : Mc) (a b : Int) : Int := ygg (fOf (rk1 (mbQ (mcB c) b.toNat))) (fOf (rk2 (mbQ (mcB c) b.toNat))) (fOf (rk1 (mbQ (mcB c) a.toNat))) (fOf (rk2 (mbQ (mcB c) a.toNat)))
def mcO (L : za7) (c : Mc) : List (Nat × Ob) := [(500001, .box 28 [lsC L (L Mc.y c) 0, lsC L (L Mc.y c) 1, lsC L (L Mc.y c) 2, lsC L (L Mc.y c) 3, lsC L (L Mc.y c) 4, lsC L (L Mc.y c) 5, lsC L (L Mc.y c) 6]), (500002, .box 9 [.str (L Mc.host c)]), (500003, .box 9 [.str (L Mc.path c)])]
noncomputable def yuy (c : Mc) (L : za7) : znq := (40, fun raw ob => match raw with
 | [.int .i64 a, .int .i64 b, .ref k1 0, .ref k2 0, .ref k3 0] => some ⟨[.int .i64 a, .int .i64 b, .ref 500001 0, .ref 500002 0, .ref 500003 0], mcO L c, L zyb c /\ L2 L mcE c a /\ L2 L mcE c b, .int .i64 (L3 L mcZ c a b), mcO L c⟩
 | _ => none)
theorem zvl (c : Mc) : zfz Tryz.prog (yuy c std) := by
 intro raw ob T h hp
 unfold yuy at h
 simp only at h
 split at h
 rotate_left
 · cases h
 rename_i a b k1 k2 k3
 cases h
 obtain ⟨hok, ha, hb⟩ : zyb c /\ mcE c a /\ mcE c b := hp
 refine zb9 (T := tt) (S := fun L => zc3 [ybl L, yca L] []) (lo := noA) (lb := noA) 5 (fn := Tryz.f40) (xs := fun L => [.int .i64 a, .int .i64 b, .ref 500001 0, .ref 500002 0, .ref 500003 0]) (rts := fun L => [.int .i64 (L3 L mcZ c a b)]) (O := fun L => mcO L c) (O1 := fun L => mcO L c) rfl rfl (by kernel_rfl) (by kernel_rfl) (by kernel_rfl) zab (zau ⟨zo2, zo9, trivial⟩ trivial) (by kernel_rfl) ?_
 intro L P' Q' hL hP hQ
 (cbv; try simp only [syT, true_and, and_true])
 subst hL
 have hq : ∀ i : Int, mcE c i -> zl8 (mbQ (mcB c) i.toNat) := fun i hi => zn2 hok (by have := hi.1; have := hi.2; show i.toNat < c.y.rs.length; omega)
 obtain ⟨ra1, ra2⟩ := zq0 (hq a ha)
 obtain ⟨rb1, rb2⟩ := zq0 (hq b hb)
 have hR : ∀ i : Int, mcE c i -> inR i (zac c.y.rs.length) = true := fun i hi => by
   rw [zmg, zaa]
   exact hi
 exact ⟨hR b hb, hq b hb, hR a ha, hq a ha, ⟨⟨zdc rb1, zdc rb2⟩, zdc ra1, zdc ra2⟩, fun _ _ _ _ => trivial, rfl⟩
noncomputable def ltC (c : Mc) (a b : Int) : Bool := ilt (mcZ c a b) 0
noncomputable def zkj (c : Mc) (l : List Iz) (i : Nat) : List Iz := ygx (ltC c) l i
noncomputable def zcv (c : Mc) (l : List Iz) (i j : Nat) : List Iz := zhg (ltC c) l 0 i j
noncomputable def zmn (c : Mc) (l : List Iz) : List Iz := ziu (ltC c) l
def insI (l : List Iz) (i : Nat) : Prop := 1 <= i /\ (i <= l.length \/ i = 1)
def zt6 (l : List Iz) (i : Nat) : Nat := l.length + 1 - i
noncomputable def insJ (c : Mc) (l : List Iz) (i j : Nat) : Prop := ziv (ltC c) l 0 i j
def jMu (j : Nat) : Nat := j
def zh2 (L : za7) (n : Nat) (l : List Iz) : Nat × Ob := (500000, .row 3 1 n (fun q => izC L (L (L zao l) q)))
def ztb (n : Nat) (x y : Int) : List AV := [.sl 500000 1 0 n, .int .i64 x, .int .i64 y, .fn 40 [] [.ref 500001 0, .ref 500002 0, .ref 500003 0]]
noncomputable def insA (L : za7) (c : Mc) (l : List Iz) (n : Nat) : Nat -> St -> Option Ann := fun id st => match id with
 | 0 => some ⟨Nat, fun i => [(8, .int .i64 (L zac i))], fun i => [zh2 L n (L3 L zkj c l i)], [0, 1, 2, 3], [500001, 500002, 500003], fun i => L2 L insI l i, fun i => L2 L zt6 l i⟩
 | 2 => ylt st 8 fun s => some ⟨Nat, fun j => [(9, .int .i64 (L zac j))], fun j => [zh2 L n (L (L3 L zcv c l (L Int.toNat s)) j)], [0, 1, 2, 3, 8], [500001, 500002, 500003], fun j => L (L3 L insJ c l (L Int.toNat s)) j, fun j => L jMu j⟩
 | _ => none
theorem zga {i n : Nat} (h : i < n) (hz : n <= 1000001) : zhj .i64 (zac i) 1 = zac (i + 1) := by
 unfold zac; rw [zhj, zio]; omega
theorem ydc {i n : Nat} (h : 0 < i) (h2 : i <= n) (hz : n <= 1000000) : zin .i64 (zac i) 1 = zac (i - 1) := by
 unfold zac; rw [zin, zio]; omega
theorem zqo {i n : Nat} (h : i < n) : inR (zac i) (zac n) = true := by
 rw [zmg, zaa, zaa]; omega
theorem yrd (l : List Iz) (k q j : Nat) (hk : k + 1 < l.length) (hq : q < l.length) (hj : j < 1) : over std k 0 1 [.int .i64 (zao l (k + 1))] (over std (k + 1) 0 1 [.int .i64 (zao l k)] (fun q => izC std (zao l q))) q j = izC std (zao ((l.set (k + 1) (l.getD k 0)).set k (l.getD (k + 1) 0)) q) j := by
 obtain rfl : j = 0 := by omega
 have e1 : zao ((l.set (k + 1) (l.getD k 0)).set k (l.getD (k + 1) 0)) q = if k = q then l.getD (k + 1) 0 else if k + 1 = q then l.getD k 0 else zao l q := by
   show zik izV _ q = _
   rw [yat (by rw [List.length_set]; exact hq), yat hq]
   rfl
 rw [e1, zgm, zgm, if_pos ⟨Nat.le_refl 0, by omega⟩, if_pos ⟨Nat.le_refl 0, by omega⟩]
 by_cases h1 : q = k
 · subst h1
   rw [if_pos rfl, za4]; rfl
 · rw [if_neg (fun h => h1 h.symm), zai h1]
   by_cases h2 : q = k + 1
   · subst h2
     rw [if_pos rfl, za4]; rfl
   · rw [if_neg (fun h => h2 h.symm), zai h2]; rfl
theorem ynz {c : Mc} {l : List Iz} {n : Nat} (hc : zyb c) (hn : n = l.length) (hz : n <= 1000000) (hE : ∀ a ∈ l, mcE c a) : zbg Tryz.prog 73 (ztb n 0 n) (zh2 std n l :: mcO std c) (.tup []) (zh2 std n (zmn c l) :: mcO std c) := by
 refine zb9 (T := tt) (S := fun L => zc3 [] [yuy c L]) (lo := fun L => insA L c l n) (lb := noA) 5 (fn := Tryz.f73) (xs := fun L => ztb n 0 (L zac n)) (rts := fun L => []) (O := fun L => zh2 L n l :: mcO L c) (O1 := fun L => zh2 L n (L2 L zmn c l) :: mcO L c) rfl rfl (by kernel_rfl) (by kernel_rfl) (by kernel_rfl) zab (zau trivial ⟨zvl c, trivial⟩) (by kernel_rfl) ?_
 intro L P' Q' hL hP hQ
 (cbv; try simp only [syT, true_and, and_true])
 refine ⟨⟨1, ?_⟩, fun i hi => ?_⟩
 · (cbv; try simp only [syT, true_and, and_true])
   subst hL
   refine ⟨fun _ _ _ _ => trivial, ?_, rfl, ?_⟩
   · intro q j hq hj
     have h : zkj c l 1 = l := ygv _ _
     show izC std (zao l q) j = izC std (zao (zkj c l 1) q) j
     rw [h]
   · exact ⟨Nat.le_refl 1, Or.inr rfl⟩
 · have hi2 : insI l i := by
     have h := hi
     rw [hL] at h
     exact h
   clear hi
   (cbv; try simp only [syT, true_and, and_true])
   refine ⟨fun hlt => ⟨⟨i, ?_⟩, fun j hj => ?_⟩, fun hlt => ?_⟩
   · have hin : i < n := by
       have h := hlt
       rw [hL] at h
       have h2 : ilt (zac i) (zac n) = true := h
       rw [zfv, zaa, zaa] at h2; omega
     have hil : i < l.length := by omega
     (cbv; try simp only [syT, true_and, and_true])
     subst hL
     obtain ⟨g1, g2⟩ := zwz (ltC c) (d := 0) hil
     refine ⟨fun _ _ _ _ => trivial, ?_, g2⟩
     intro q j hq hj
     have h : zcv c l i i = zkj c l i := g1
     show izC std (zao (zkj c l i) q) j = izC std (zao (zcv c l i i) q) j
     rw [h]
   · have hj2 : insJ c l i j := by
       have h := hj
       rw [hL] at h
       exact h
     clear hj
     have hin : i < n := by
       have h := hlt
       rw [hL] at h
       have h2 : ilt (zac i) (zac n) = true := h
       rw [zfv, zaa, zaa] at h2; omega
     have hil : i < l.length := by omega
     have hji : j <= i := hj2.1
     have hlen : ∀ j, (zcv c l i j).length = l.length := fun j => zuh (ltC c) hil
     have hmem : ∀ q, q < n -> mcE c (zao (zcv c l i j) q) := fun q hq => hE _ (ygu (ltC c) hil (by omega))
     (cbv; try simp only [syT, true_and, and_true])
     refine ⟨fun h0 => ?_, fun h0 => ⟨i + 1, ?_⟩⟩
     · have hj0 : 0 < j := by
         have h := h0
         rw [hL] at h
         have h2 : ilt 0 (zac j) = true := h
         rw [zfv, zaa] at h2; omega
       have e1 : zin .i64 (zac j) 1 = zac (j - 1) := ydc hj0 (show j <= n by omega) hz
       have e2 : Nat.add 0 (Int.toNat (zac j)) = j := by rw [yi3]; rfl
       have e3 : Nat.add 0 (Int.toNat (zin .i64 (zac j) 1)) = j - 1 := by rw [yi3, e1]; rfl
       have r1 : L2 L inR (L zac j) (L zac n) = true := by rw [hL]; exact zqo (by omega)
       have r2 : L2 L inR (L2 L (zin IntKind.i64) (L zac j) 1) (L zac n) = true := by
         rw [hL]
         show inR (zin .i64 (zac j) 1) (zac n) = true
         rw [e1]; exact zqo (by omega)
       refine ⟨r1, r2, fun _ _ _ _ => trivial, ⟨by rw [hL]; exact hc, ?_, ?_⟩, fun hlt2 => ⟨r2, r1, r1, r2, j - 1, ?_⟩, fun hge => ⟨i + 1, ?_⟩⟩
       · rw [hL]
         show mcE c (zao (zcv c l i j) (Nat.add 0 (Int.toNat (zac j))))
         rw [e2]; exact hmem j (by omega)
       · rw [hL]
         show mcE c (zao (zcv c l i j) (Nat.add 0 (Int.toNat (zin .i64 (zac j) 1))))
         rw [e3]; exact hmem (j - 1) (by omega)
       · (cbv; try simp only [syT, true_and, and_true])
         subst hL
         obtain ⟨k, rfl⟩ : ∃ k, j = k + 1 := ⟨j - 1, by omega⟩
         have hl3 : ltC c ((zcv c l i (k + 1)).getD (k + 1) 0) ((zcv c l i (k + 1)).getD k 0) = true := by
           have h : ilt (mcZ c (zao (zcv c l i (k + 1)) (Nat.add 0 (Int.toNat (zac (k + 1))))) (zao (zcv c l i (k + 1)) (Nat.add 0 (Int.toNat (zin .i64 (zac (k + 1)) 1))))) 0 = true := hlt2
           rw [e2, e3] at h
           exact h
         obtain ⟨g1, g2⟩ := yak (ltC c) hil hj2 hl3
         refine ⟨fun _ _ _ _ => trivial, ?_, e1, g2, Nat.lt_succ_self k⟩
         intro q j hq hj
         show over std (Nat.add 0 (Int.toNat (zin .i64 (zac (k + 1)) 1))) 0 1 [.int .i64 (zao (zcv c l i (k + 1)) (Nat.add 0 (Int.toNat (zac (k + 1)))))] (over std (Nat.add 0 (Int.toNat (zac (k + 1)))) 0 1 [.int .i64 (zao (zcv c l i (k + 1)) (Nat.add 0 (Int.toNat (zin .i64 (zac (k + 1)) 1))))] (fun q => izC std (zao (zcv c l i (k + 1)) q))) q j = izC std (zao (zcv c l i k) q) j
         rw [e2, e3]
         have h := yrd (zcv c l i (k + 1)) k q j (by rw [hlen]; omega) (by rw [hlen]; omega) hj
         refine h.trans ?_
         rw [show (((zcv c l i (k + 1)).set (k + 1) ((zcv c l i (k + 1)).getD k 0)).set k ((zcv c l i (k + 1)).getD (k + 1) 0)) = zcv c l i k from g1]
       · (cbv; try simp only [syT, true_and, and_true])
         subst hL
         have hl3 : ltC c ((zcv c l i j).getD j 0) ((zcv c l i j).getD (j - 1) 0) = false := by
           have h : ilt (mcZ c (zao (zcv c l i j) (Nat.add 0 (Int.toNat (zac j)))) (zao (zcv c l i j) (Nat.add 0 (Int.toNat (zin .i64 (zac j) 1))))) 0 = false := hge
           rw [e2, e3] at h
           exact h
         have g1 := zpr (ltC c) hil hj2 (fun _ => hl3)
         refine ⟨fun _ _ _ _ => trivial, ?_, zga hin (by omega), ⟨by omega, Or.inl (by omega)⟩, show zt6 l (i + 1) < zt6 l i by unfold zt6; omega⟩
         intro q j2 hq hj
         show izC std (zao (zcv c l i j) q) j2 = izC std (zao (zkj c l (i + 1)) q) j2
         rw [show zcv c l i j = zkj c l (i + 1) from g1]
     · have hj0 : j = 0 := by
         have h := h0
         rw [hL] at h
         have h2 : ilt 0 (zac j) = false := h
         rw [zju, zaa] at h2; omega
       (cbv; try simp only [syT, true_and, and_true])
       subst hL
       have g1 := zpr (ltC c) hil hj2 (fun h => by omega)
       refine ⟨fun _ _ _ _ => trivial, ?_, zga hin (by omega), ⟨by omega, Or.inl (by omega)⟩, show zt6 l (i + 1) < zt6 l i by unfold zt6; omega⟩
       intro q j2 hq hj
       show izC std (zao (zcv c l i j) q) j2 = izC std (zao (zkj c l (i + 1)) q) j2
       rw [show zcv c l i j = zkj c l (i + 1) from g1]
   · (cbv; try simp only [syT, true_and, and_true])
     subst hL
     refine ⟨fun _ _ _ _ => trivial, ?_⟩
     intro q j hq hj
     have hni : l.length <= i := by
       have h2 : ilt (zac i) (zac n) = false := hlt
       rw [zju, zaa, zaa] at h2; omega
     have h : zkj c l i = zmn c l := ygw (ltC c) hni
     show izC std (zao (zkj c l i) q) j = izC std (zao (zmn c l) q) j
     rw [h]
noncomputable def insN (L : za7) (c : Mc) (l : List Iz) (n : Nat) : Nat -> St -> Option Ann := fun id st => match id with
 | 0 => some ⟨Nat, fun i => [(8, .int .i64 (L2 L (zhj .i64) (L zac n) 1))], fun i => [zh2 L n l], [0, 1, 2, 3], [500001, 500002, 500003], fun _ => True, fun _ => 0⟩
 | _ => none
theorem yny {c : Mc} {l : List Iz} {n : Nat} (hz : n <= 1000000) : zbg Tryz.prog 73 (ztb n n n) (zh2 std n l :: mcO std c) (.tup []) (zh2 std n l :: mcO std c) := by
 refine zb9 (T := tt) (S := fun L => zc3 [] [yuy c L]) (lo := fun L => insN L c l n) (lb := noA) 5 (fn := Tryz.f73) (xs := fun L => ztb n (L zac n) (L zac n)) (rts := fun L => []) (O := fun L => zh2 L n l :: mcO L c) (O1 := fun L => zh2 L n l :: mcO L c) rfl rfl (by kernel_rfl) (by kernel_rfl) (by kernel_rfl) zab (zau trivial ⟨zvl c, trivial⟩) (by kernel_rfl) ?_
 intro L P' Q' hL hP hQ
 (cbv; try simp only [syT, true_and, and_true])
 refine ⟨⟨0, ?_⟩, fun i _ => ?_⟩
 · (cbv; try simp only [syT, true_and, and_true])
   exact ⟨fun _ _ _ _ => trivial, fun _ _ _ _ => trivial⟩
 · (cbv; try simp only [syT, true_and, and_true])
   refine ⟨fun hlt => ?_, fun hlt => ?_⟩
   · exfalso
     rw [hL] at hlt
     have h2 : ilt (zhj .i64 (zac n) 1) (zac n) = true := hlt
     rw [zfv, zga (Nat.lt_succ_self n) (show n + 1 <= 1000001 by omega), zaa, zaa] at h2; omega
   · (cbv; try simp only [syT, true_and, and_true])
     exact ⟨fun _ _ _ _ => trivial, fun _ _ _ _ => trivial⟩
noncomputable def pkZ (c : Mc) (l : List Iz) (a : Int) : List Iz := if a = 0 then l else zmn c l
noncomputable def ywj (c : Mc) (l : List Iz) (n : Nat) (L : za7) : znq := (73, fun raw ob => match raw with
 | [.sl k 1 0 n', .int .i64 a, .int .i64 b, .fn f [] [.ref k1 0, .ref k2 0, .ref k3 0]] => some ⟨ztb n a b, zh2 L n (L3 L pkZ c l a) :: mcO L c, (a = 0 \/ a = L zac n) /\ b = L zac n, .tup [], zh2 L n (L2 L zmn c l) :: mcO L c⟩
 | _ => none)
theorem ydg {c : Mc} {l : List Iz} {n : Nat} (hc : zyb c) (hn : n = l.length) (hz : n <= 1000000) (hE : ∀ a ∈ l, mcE c a) : zfz Tryz.prog (ywj c l n std) := by
 intro raw ob T h hp
 unfold ywj at h
 simp only at h
 split at h
 rotate_left
 · cases h
 rename_i k n' a b f k1 k2 k3
 cases h
 obtain ⟨ha, hb⟩ : (a = 0 \/ a = zac n) /\ b = zac n := hp
 subst hb
 by_cases h0 : a = 0
 · subst h0
   have e : pkZ c l 0 = l := if_pos rfl
   show zbg Tryz.prog 73 (ztb n 0 n) (zh2 std n (pkZ c l 0) :: mcO std c) (.tup []) (zh2 std n (zmn c l) :: mcO std c)
   rw [e]
   exact ynz hc hn hz hE
 · have ha : a = zac n := ha.resolve_left h0
   have e : pkZ c l a = zmn c l := if_neg h0
   show zbg Tryz.prog 73 (ztb n a n) (zh2 std n (pkZ c l a) :: mcO std c) (.tup []) (zh2 std n (zmn c l) :: mcO std c)
   rw [e, ha]
   exact yny hz
def st20 (k : Nat) : Nat := 20 * k
def yaf (k : Nat) : Nat := 20 * k + 20
def yrh (n k : Nat) : Prop := k = 0 \/ (k = 1 /\ n = 20)
def stMu (k : Nat) : Nat := 2 - k
noncomputable def yae (c : Mc) (l : List Iz) (k : Nat) : List Iz := pkZ c l (st20 k)
def yag (n : Nat) (x : Int) : List AV := [.sl 500000 1 0 n, .int .i64 x, .fn 40 [] [.ref 500001 0, .ref 500002 0, .ref 500003 0]]
noncomputable def stbA (L : za7) (c : Mc) (l : List Iz) (n : Nat) : Nat -> St -> Option Ann := fun id st => match id with
 | 0 => some ⟨Nat, fun k => [(7, .int .i64 (L zac (L st20 k))), (8, .int .i64 (L zac (L yaf k)))], fun k => [zh2 L n (L3 L yae c l k)], [0, 1, 2, 6], [500001, 500002, 500003], fun k => L2 L yrh n k, fun k => L stMu k⟩
 | 2 => some ⟨Nat, fun k => [], fun k => [zh2 L n (L2 L zmn c l)], [0, 1, 2, 6], [500001, 500002, 500003], fun _ => True, fun _ => 0⟩
 | _ => none
theorem yrg {c : Mc} {l : List Iz} {n : Nat} (hc : zyb c) (hn : n = l.length) (hz : n <= 20) (hE : ∀ a ∈ l, mcE c a) : zbg Tryz.prog 59 (yag n n) (zh2 std n l :: mcO std c) (.tup []) (zh2 std n (zmn c l) :: mcO std c) := by
 refine zb9 (T := tt) (S := fun L => zc3 [] [ywj c l n L]) (lo := fun L => stbA L c l n) (lb := noA) 5 (fn := Tryz.f59) (xs := fun L => yag n (L zac n)) (rts := fun L => []) (O := fun L => zh2 L n l :: mcO L c) (O1 := fun L => zh2 L n (L2 L zmn c l) :: mcO L c) rfl rfl (by kernel_rfl) (by kernel_rfl) (by kernel_rfl) zab (zau trivial ⟨ydg hc hn (by omega) hE, trivial⟩) (by kernel_rfl) ?_
 intro L P' Q' hL hP hQ
 (cbv; try simp only [syT, true_and, and_true])
 refine ⟨⟨0, ?_⟩, fun k hk => ?_⟩
 · (cbv; try simp only [syT, true_and, and_true])
   subst hL
   refine ⟨fun _ _ _ _ => trivial, ?_, rfl, rfl, Or.inl rfl⟩
   intro q j hq hj
   show izC std (zao l q) j = izC std (zao (yae c l 0) q) j
   rw [show yae c l 0 = l from (show pkZ c l 0 = l from if_pos rfl)]
 · have hk2 : yrh n k := by
     have h := hk
     rw [hL] at h
     exact h
   clear hk
   (cbv; try simp only [syT, true_and, and_true])
   refine ⟨fun hle => ?_, fun hgt => ?_⟩
   · have h20 : k = 0 /\ n = 20 := by
       have h := hle
       rw [hL] at h
       have h2 : ile (zac (yaf k)) (zac n) = true := h
       rw [ydo, zaa, zaa] at h2
       unfold yaf at h2
       rcases hk2 with h3 | ⟨h3, h4⟩ <;> omega
     refine ⟨fun _ _ _ _ => trivial, by rw [hL]; exact fun _ _ _ _ => rfl, ?_, 1, ?_⟩
     · rw [hL]
       obtain ⟨rfl, h5⟩ := h20
       rw [h5]
       exact ⟨Or.inl rfl, rfl⟩
     · (cbv; try simp only [syT, true_and, and_true])
       subst hL
       obtain ⟨rfl, h5⟩ := h20
       refine ⟨fun _ _ _ _ => trivial, ?_, by rfl, rfl, Or.inr ⟨rfl, h5⟩, show 1 < 2 by decide⟩
       intro q j hq hj
       show izC std (zao (zmn c l) q) j = izC std (zao (yae c l 1) q) j
       rw [show yae c l 1 = zmn c l from (show pkZ c l 20 = zmn c l from if_neg (by decide))]
   · have h21 : n = 20 \/ k = 0 := by
       rcases hk2 with h3 | ⟨h3, h4⟩ <;> omega
     refine ⟨fun _ _ _ _ => trivial, by rw [hL]; exact fun _ _ _ _ => rfl, ?_, ⟨0, ?_⟩, fun x _ => ?_⟩
     · rw [hL]
       rcases hk2 with h3 | ⟨h3, h4⟩
       · rw [h3]; exact Or.inl rfl
       · rw [h3, h4]; exact Or.inr rfl
     · (cbv; try simp only [syT, true_and, and_true])
       exact ⟨fun _ _ _ _ => trivial, fun _ _ _ _ => trivial⟩
     · (cbv; try simp only [syT, true_and, and_true])
       refine ⟨fun h20 => ?_, fun _ => ⟨fun _ _ _ _ => trivial, fun _ _ _ _ => trivial⟩⟩
       rw [hL] at h20
       have h2 : ilt 20 (zac n) = true := h20
       rw [zfv, zaa] at h2
       omega
noncomputable def yvf (c : Mc) (l : List Iz) (n : Nat) (L : za7) : znq := (59, fun raw ob => match raw with
 | [.sl k 1 0 n', .int .i64 a, .fn f [] [.ref k1 0, .ref k2 0, .ref k3 0]] => some ⟨yag n a, zh2 L n l :: mcO L c, a = L zac n, .tup [], zh2 L n (L2 L zmn c l) :: mcO L c⟩
 | _ => none)
theorem yad {c : Mc} {l : List Iz} {n : Nat} (hc : zyb c) (hn : n = l.length) (hz : n <= 20) (hE : ∀ a ∈ l, mcE c a) : zfz Tryz.prog (yvf c l n std) := by
 intro raw ob T h hp
 unfold yvf at h
 simp only at h
 split at h
 rotate_left
 · cases h
 rename_i k n' a f k1 k2 k3
 cases h
 have ha : a = zac n := hp
 subst ha
 exact yrg hc hn hz hE
def yah (n : Nat) : List AV := [.sl 500000 1 0 n, .fn 40 [] [.ref 500001 0, .ref 500002 0, .ref 500003 0]]
theorem yvh {c : Mc} {l : List Iz} {n : Nat} (hc : zyb c) (hn : n = l.length) (hz : n <= 20) (hE : ∀ a ∈ l, mcE c a) : zbg Tryz.prog 39 (yah n) (zh2 std n l :: mcO std c) (.tup []) (zh2 std n (zmn c l) :: mcO std c) := by
 refine zb9 (T := tt) (S := fun L => zc3 [] [yvf c l n L]) (lo := noA) (lb := noA) 5 (fn := Tryz.f39) (xs := fun L => yah n) (rts := fun L => []) (O := fun L => zh2 L n l :: mcO L c) (O1 := fun L => zh2 L n (L2 L zmn c l) :: mcO L c) rfl rfl (by kernel_rfl) (by kernel_rfl) (by kernel_rfl) zab (zau trivial ⟨yad hc hn hz hE, trivial⟩) (by kernel_rfl) ?_
 intro L P' Q' hL hP hQ
 (cbv; try simp only [syT, true_and, and_true])
 exact ⟨fun _ _ _ _ => trivial, fun _ _ _ _ => trivial, fun _ _ _ _ => trivial, fun _ _ _ _ => trivial⟩
end Sy
end Go.Proofs.YtogpolfhcbgcbaaGreatDoor
namespace Go.Proofs.YtogpolfhcbgcbaaGreatDoor
namespace Sy
open Go Go.RowKit
set_option maxRecDepth 100000
set_option linter.unusedSimpArgs false
set_option linter.unusedVariables false
section
variable {α : Type} {lt : α -> α -> Bool}
theorem zms {lt lt' : α -> α -> Bool} {x : α} {l : List α} (h : ∀ y ∈ l, lt x y = lt' x y) : ∀ k, zrs lt x l k = zrs lt' x l k
 | 0 => rfl
 | k + 1 => by
   unfold zrs
   cases e : l[k]? with
   | none => rfl
   | some y =>
     simp only
     rw [h y (List.mem_of_getElem? e), zms h k]
theorem zxw {lt lt' : α -> α -> Bool} {x : α} {l : List α} (h : ∀ y ∈ l, lt x y = lt' x y) : zut lt l x = zut lt' l x := by
 unfold zut
 rw [zms h]
theorem zwy {lt lt' : α -> α -> Bool} {l : List α} (h : ∀ x ∈ l, ∀ y ∈ l, lt x y = lt' x y) : ziu lt l = ziu lt' l := by
 have key : ∀ i, i <= l.length -> ziu lt (l.take i) = ziu lt' (l.take i) := by
   intro i
   induction i with
   | zero => intro _; rfl
   | succ i ih =>
     intro hi
     rw [zhn lt (by omega), zhn lt' (by omega), ih (by omega)]
     refine zxw fun y hy => h _ (List.getElem_mem _) _ ?_
     exact List.mem_of_mem_take ((znx lt').1 hy)
 have := key l.length (Nat.le_refl _)
 rwa [List.take_length] at this
def yqu (lt : α -> α -> Bool) (l : List α) : Prop := List.Pairwise (fun a b => lt b a = false) l
structure Wk (lt : α -> α -> Bool) : Prop where
 asym : ∀ a b, lt a b = true -> lt b a = false
 neg : ∀ a b c, lt b a = false -> lt c b = false -> lt c a = false
theorem zq3 (x : α) (l : List α) : ∀ k, k <= l.length -> (∀ q y, zrs lt x l k <= q -> q < k -> l[q]? = some y -> lt x y = true) /\ (0 < zrs lt x l k -> ∀ y, l[zrs lt x l k - 1]? = some y -> lt x y = false)
 | 0, _ => ⟨fun q y h1 h2 => by omega, fun h => by cases h⟩
 | k + 1, hk => by
   obtain ⟨i1, i2⟩ := zq3 x l k (by omega)
   have e : l[k]? = some l[k] := List.getElem?_eq_getElem (by omega)
   unfold zrs
   rw [e]
   simp only
   cases hlt : lt x l[k] with
   | true =>
     rw [if_pos rfl]
     refine ⟨fun q y h1 h2 h3 => ?_, i2⟩
     by_cases hq : q = k
     · subst hq
       rw [e] at h3; cases h3
       exact hlt
     · exact i1 q y h1 (by omega) h3
   | false =>
     rw [if_neg (by decide)]
     refine ⟨fun q y h1 h2 => by omega, fun _ y hy => ?_⟩
     rw [Nat.add_sub_cancel, e] at hy
     cases hy
     exact hlt
theorem yc1 (W : Wk lt) {l : List α} {x : α} (h : yqu lt l) : yqu lt (zut lt l x) := by
 obtain ⟨h1, h2⟩ := zq3 (lt := lt) x l l.length (Nat.le_refl _)
 have hle := yc2 lt x l l.length
 unfold zut
 generalize zrs lt x l l.length = k at h1 h2 hle |-
 have hp : List.Pairwise (fun a b => lt b a = false) (l.take k ++ l.drop k) := by rw [List.take_append_drop]; exact h
 rw [List.pairwise_append] at hp
 obtain ⟨p1, p2, p3⟩ := hp
 have hd : ∀ y ∈ l.drop k, lt x y = true := by
   intro y hy
   obtain ⟨q, hq, rfl⟩ := List.getElem_of_mem hy
   rw [List.length_drop] at hq
   rw [List.getElem_drop]
   exact h1 (k + q) _ (by omega) (by omega) (List.getElem?_eq_getElem (by omega))
 have ht : ∀ y ∈ l.take k, lt x y = false := by
   intro y hy
   obtain ⟨q, hq, rfl⟩ := List.getElem_of_mem hy
   rw [List.length_take] at hq
   rw [List.getElem_take]
   have hk0 : 0 < k := by omega
   have hl : lt x (l[k - 1]'(by omega)) = false := h2 hk0 _ (List.getElem?_eq_getElem (by omega))
   by_cases e : q = k - 1
   · subst e; exact hl
   · exact W.neg _ _ _ (List.pairwise_iff_getElem.1 h q (k - 1) (by omega) (by omega) (by omega)) hl
 unfold yqu
 rw [List.pairwise_append]
 refine ⟨p1, ?_, fun a ha b hb => ?_⟩
 · rw [List.pairwise_cons]
   exact ⟨fun y hy => W.asym _ _ (hd y hy), p2⟩
 · rcases List.mem_cons.1 hb with rfl | hb
   · exact ht a ha
   · exact p3 a ha b hb
theorem yaj (W : Wk lt) (l : List α) : yqu lt (ziu lt l) := by
 have key : ∀ i, i <= l.length -> yqu lt (ziu lt (l.take i)) := by
   intro i
   induction i with
   | zero => intro _; exact List.Pairwise.nil
   | succ i ih =>
     intro hi
     rw [zhn lt (by omega)]
     exact yc1 W (ih (by omega))
 have := key l.length (Nat.le_refl _)
 rwa [List.take_length] at this
end
noncomputable def zs2 (c : Mb) : Nat -> List Iz
 | 0 => []
 | i + 1 => if mtB (mbQ c i) = true then zs2 c i ++ [(i : Int)] else zs2 c i
noncomputable def ltM (c : Mb) (a b : Int) : Bool := zh8 (rk1 (mbQ c a.toNat)) (rk2 (mbQ c a.toNat)) (rk1 (mbQ c b.toNat)) (rk2 (mbQ c b.toNat))
noncomputable def yuh (c : Mb) : List Iz := ziu (ltM c) (zs2 c c.rs.length)
theorem ysk (c : Mb) : Wk (ltM c) := by
 refine ⟨fun a b h => ?_, fun a b d h1 h2 => ?_⟩
 · have := yd5.1 h
   exact zoo.2 (by omega)
 · have h1 := zoo.1 h1
   have h2 := zoo.1 h2
   exact zoo.2 (by omega)
theorem zs1 (c : Mb) : ∀ {i : Nat} {a : Int}, a ∈ zs2 c i ↔ 0 <= a /\ a < i /\ mtB (mbQ c a.toNat) = true
 | 0, a => by
   unfold zs2
   simp
   omega
 | i + 1, a => by
   have ih := zs1 c (i := i) (a := a)
   unfold zs2
   by_cases h : mtB (mbQ c i) = true
   · rw [if_pos h, List.mem_append, ih, List.mem_singleton]
     constructor
     · rintro (⟨h1, h2, h3⟩ | rfl)
       · exact ⟨h1, by omega, h3⟩
       · exact ⟨by omega, by omega, by rw [Int.toNat_natCast]; exact h⟩
     · rintro ⟨h1, h2, h3⟩
       by_cases e : a = i
       · exact .inr e
       · exact .inl ⟨h1, by omega, h3⟩
   · rw [if_neg h, ih]
     constructor
     · rintro ⟨h1, h2, h3⟩
       exact ⟨h1, by omega, h3⟩
     · rintro ⟨h1, h2, h3⟩
       refine ⟨h1, ?_, h3⟩
       by_cases e : a = i
       · subst e
         rw [Int.toNat_natCast] at h3
         exact absurd h3 h
       · omega
theorem zhq (c : Mb) : ∀ i, (zs2 c i).length <= i
 | 0 => Nat.le_refl _
 | i + 1 => by
   have := zhq c i
   unfold zs2
   split
   · rw [List.length_append]; show _ + 1 <= _; omega
   · omega
theorem zu8 {c : Mb} {a : Int} : a ∈ yuh c ↔ 0 <= a /\ a < c.rs.length /\ mtB (mbQ c a.toNat) = true := by
 unfold yuh
 rw [znx, zs1]
theorem zpf (c : Mb) : (yuh c).length = (zs2 c c.rs.length).length := zug _ _
end Sy
end Go.Proofs.YtogpolfhcbgcbaaGreatDoor
namespace Go.Proofs.YtogpolfhcbgcbaaGreatDoor
namespace Sy
open Go Go.RowKit
set_option maxRecDepth 100000
set_option maxHeartbeats 4000000
set_option linter.unusedSimpArgs false
set_option linter.unusedVariables false
theorem yfl {a b x y : Int} (ha : inM a) (hb : inM b) (hx : inM x) (hy : inM y) : ilt (ygg (fOf a) (fOf b) (fOf x) (fOf y)) 0 = zh8 x y a b := by
 obtain ⟨a, rfl, na⟩ := zem ha
 obtain ⟨b, rfl, nb⟩ := zem hb
 obtain ⟨x, rfl, nx⟩ := zem hx
 obtain ⟨y, rfl, ny⟩ := zem hy
 have k : ∀ n : Nat, n <= 2 ^ 40 -> n < 2 ^ 53 := fun n h => Nat.lt_of_le_of_lt h (by decide)
 unfold ygg
 rw [zp4 (k _ na) (k _ nx), zp4 (k _ nb) (k _ ny)]
 unfold zh8
 rcases Nat.lt_trichotomy a x with h | h | h
 · rw [if_pos h, if_neg (by decide : ¬ (-1 : Int) = 0), decide_eq_true (show ((a : Int) < x) by omega)]
   rfl
 · subst h
   rw [if_neg (Nat.lt_irrefl _), if_neg (Nat.lt_irrefl _), if_pos rfl, decide_eq_false (show ¬ ((a : Int) < a) by omega), decide_eq_true (rfl : (a : Int) = a)]
   rcases Nat.lt_trichotomy b y with h2 | h2 | h2
   · rw [if_pos h2, decide_eq_true (show ((b : Int) < y) by omega)]; rfl
   · subst h2
     rw [if_neg (Nat.lt_irrefl _), if_neg (Nat.lt_irrefl _), decide_eq_false (show ¬ ((b : Int) < b) by omega)]; rfl
   · rw [if_neg (show ¬ b < y by omega), if_pos h2, decide_eq_false (show ¬ ((b : Int) < y) by omega)]; rfl
 · rw [if_neg (show ¬ a < x by omega), if_pos h, if_neg (by decide : ¬ (1 : Int) = 0), decide_eq_false (show ¬ ((a : Int) < x) by omega), decide_eq_false (show ¬ ((x : Int) = a) by omega)]
   rfl
theorem yw7 {c : Mc} {a b : Int} (hok : zyb c) (ha : mcE c a) (hb : mcE c b) : ltC c a b = ltM (mcB c) a b := by
 have hq : ∀ i : Int, mcE c i -> zl8 (mbQ (mcB c) i.toNat) := fun i hi => zn2 hok (by have := hi.1; have := hi.2; show i.toNat < c.y.rs.length; omega)
 obtain ⟨ra1, ra2⟩ := zq0 (hq a ha)
 obtain ⟨rb1, rb2⟩ := zq0 (hq b hb)
 unfold ltC mcZ ltM
 exact yfl rb1 rb2 ra1 ra2
noncomputable def slM (c : Mc) (i : Nat) : List Iz := zs2 (mcB c) i
noncomputable def slN (c : Mc) (i : Nat) : Nat := (slM c i).length
noncomputable def slE (c : Mc) : Nat := slN c c.y.rs.length
noncomputable def slL (c : Mc) : List Iz := slM c c.y.rs.length
noncomputable def alZ (c : Mc) : List Iz := yuh (mcB c)
theorem ymb {c : Mc} : ∀ a ∈ slL c, mcE c a := fun a ha => by
 obtain ⟨h1, h2, _⟩ := (zs1 (mcB c)).1 ha
 exact ⟨h1, h2⟩
theorem yui {c : Mc} (hok : zyb c) : zmn c (slL c) = alZ c := by
 unfold zmn alZ yuh
 exact zwy fun x hx y hy => yw7 hok (ymb x hx) (ymb y hy)
theorem zfp (c : Mc) : (alZ c).length = slE c := zpf _
noncomputable def ssm (c : Mc) (L : za7) : znq := (39, fun raw ob => match raw with
 | [.sl k 1 0 n', .fn f [] [.ref k1 0, .ref k2 0, .ref k3 0]] => some ⟨yah (L slE c), zh2 L (L slE c) (L slL c) :: mcO L c, True, .tup [], zh2 L (L slE c) (L alZ c) :: mcO L c⟩
 | _ => none)
theorem ygs {c : Mc} (hc : zyb c) (h20 : c.y.rs.length <= 20) : zfz Tryz.prog (ssm c std) := by
 intro raw ob T h hp
 unfold ssm at h
 simp only at h
 split at h
 rotate_left
 · cases h
 rename_i k n' f k1 k2 k3
 cases h
 have h := yvh (c := c) (l := slL c) (n := slE c) hc rfl (Nat.le_trans (zhq (mcB c) _) h20) ymb
 rw [yui hc] at h
 exact h
def slI (c : Mc) (i : Nat) : Prop := i <= c.y.rs.length
def slMu (c : Mc) (i : Nat) : Nat := c.y.rs.length - i
noncomputable def allA (L : za7) (c : Mc) : Nat -> St -> Option Ann := fun id st => match id with
 | 0 => some ⟨Nat, fun i => [(13, .int .i64 (L zac i)), (7, .sl 900 1 0 (L2 L slN c i))], fun i => [(900, .row 3 1 (L2 L slN c i) (fun q => izC L (L (L zao (L2 L slM c i)) q)))], [3, 4, 5, 11, 12], [3, 4, 5], fun i => L2 L slI c i, fun i => L2 L slMu c i⟩
 | _ => none
theorem yug {c : Mc} (hc : zyb c) (h20 : c.y.rs.length <= 20) : za9 Tryz.prog 20 (.agg ((List.range 7).map (lsC std c.y)) :: .str c.host :: .str c.path :: []) (.lst 1 (slE c) (fun q => izC std (zao (alZ c) q))) := by
 refine za5 (T := tt) (S := fun L => zc3 [yi5 L] [ssm c L]) (lo := fun L => allA L c) (lb := noA) 5 (fn := Tryz.f20) (xs := fun L => [.agg [lsC L (L Mc.y c) 0, lsC L (L Mc.y c) 1, lsC L (L Mc.y c) 2, lsC L (L Mc.y c) 3, lsC L (L Mc.y c) 4, lsC L (L Mc.y c) 5, lsC L (L Mc.y c) 6], .str (L Mc.host c), .str (L Mc.path c)]) rfl rfl (by kernel_rfl) (by kernel_rfl) rfl zab (zau ⟨zvf, trivial⟩ ⟨ygs hc h20, trivial⟩) (by kernel_rfl) ?_
 intro L P' Q' hL hP hQ
 (cbv; try simp only [syT, true_and, and_true])
 refine ⟨⟨0, ?_⟩, fun i hi => ?_⟩
 · (cbv; try simp only [syT, true_and, and_true])
   subst hL
   exact ⟨fun _ _ _ _ => trivial, rfl, fun _ _ _ _ => trivial, rfl, rfl, Nat.zero_le _⟩
 · have hi2 : i <= c.y.rs.length := by
     have h := hi
     rw [hL] at h
     exact h
   clear hi
   obtain ⟨i', hi'⟩ : ∃ i', i' = i + 1 := ⟨_, rfl⟩
   (cbv; try simp only [syT, true_and, and_true])
   refine ⟨fun hlt => ?_, fun hge => ?_⟩
   · have hil : i < c.y.rs.length := by
       have h := hlt
       rw [hL] at h
       have h2 : ilt (zac i) (zac c.y.rs.length) = true := h
       rw [zfv, zaa, zaa] at h2; omega
     have hqk := zn2 (c := mcB c) hc (i := i) hil
     have hln := zhq (mcB c) i
     obtain ⟨q, hq⟩ : ∃ q, zjt L (L Rt.h (L (L zbk (L Ls.rs (L Mc.y c))) (L Int.toNat (L zac i)))) (L Rt.p (L (L zbk (L Ls.rs (L Mc.y c))) (L Int.toNat (L zac i)))) (L Mc.host c) (L Mc.path c) = q := ⟨_, rfl⟩
     rw [hq]
     have hqq : q = mbQ (mcB c) i := by rw [<- hq, hL]; rfl
     refine ⟨?_, ?_, fun hm => ⟨?_, i', ?_⟩, fun hm => ⟨i', ?_⟩⟩
     · rw [hL]
       show inR (zac i) (zac c.y.rs.length) = true
       rw [zmg, zaa, zaa]; omega
     · rw [hL, hqq]; exact hqk
     · rw [hL]
       show zcl 8 (slN c i) 1 = true
       have : slN c i <= i := hln
       rw [zht]; omega
     · have hs : slM c i' = slM c i ++ [(i : Int)] := by
         have h := hm
         rw [hL, hqq] at h
         have h : mtB (mbQ (mcB c) i) = true := h
         unfold slM
         rw [hi', zs2, if_pos h]
       have hsn : slN c i' = slN c i + 1 := by
         unfold slN
         rw [hs, List.length_append]; rfl
       (cbv; try simp only [syT, true_and, and_true])
       subst hL
       refine ⟨fun _ _ _ _ => trivial, ⟨hsn.symm, ?_⟩, fun _ _ _ _ => trivial, hsn.symm, ?_, ?_, ?_⟩
       · intro q j hq hj
         have hq : q < slN c i' := hq
         show zhh std (zbm q (slN c i)) (izC std (zao (slM c i) q) j) (.int .i64 (zk1 [zac i] (Nat.add 0 (q - slN c i)))) = izC std (zao (slM c i') q) j
         rw [hs]
         by_cases h : q < slN c i
         · have e : zao (slM c i ++ [(i : Int)]) q = zao (slM c i) q := by
             show (slM c i ++ [(i : Int)]).getD q 0 = (slM c i).getD q 0
             rw [List.getD_eq_getElem?_getD, List.getElem?_append_left h, <- List.getD_eq_getElem?_getD]
           rw [e, show zbm q (slN c i) = true from decide_eq_true h]; rfl
         · obtain rfl : q = slN c i := by omega
           have e : zao (slM c i ++ [(i : Int)]) (slN c i) = (i : Int) := by
             show (slM c i ++ [(i : Int)]).getD (slM c i).length 0 = (i : Int)
             rw [List.getD_eq_getElem?_getD, List.getElem?_append_right (Nat.le_refl _), Nat.sub_self]; rfl
           rw [e, show zbm (slN c i) (slN c i) = false from decide_eq_false (Nat.lt_irrefl _), Nat.sub_self]; rfl
       · show zhj .i64 (zac i) 1 = zac i'
         rw [hi', zga hil (by omega)]
       · show i' <= c.y.rs.length
         omega
       · show c.y.rs.length - i' < c.y.rs.length - i
         omega
     · have hs : slM c i' = slM c i := by
         have h := hm
         rw [hL, hqq] at h
         have h : mtB (mbQ (mcB c) i) = false := h
         unfold slM
         rw [hi', zs2, if_neg (by rw [h]; decide)]
       have hsn : slN c i' = slN c i := by
         unfold slN
         rw [hs]
       (cbv; try simp only [syT, true_and, and_true])
       subst hL
       refine ⟨fun _ _ _ _ => trivial, ⟨hsn.symm, ?_⟩, fun _ _ _ _ => trivial, hsn.symm, ?_, ?_, ?_⟩
       · intro q j hq hj
         show izC std (zao (slM c i) q) j = izC std (zao (slM c i') q) j
         rw [hs]
       · show zhj .i64 (zac i) 1 = zac i'
         rw [hi', zga hil (by omega)]
       · show i' <= c.y.rs.length
         omega
       · show c.y.rs.length - i' < c.y.rs.length - i
         omega
   · have hie : i = c.y.rs.length := by
       have h := hge
       rw [hL] at h
       have h2 : ilt (zac i) (zac c.y.rs.length) = false := h
       rw [zju, zaa, zaa] at h2; omega
     subst hL; subst hQ
     subst hie
     refine ⟨fun _ _ _ _ => trivial, ⟨rfl, fun _ _ _ _ => rfl⟩, rfl, ?_⟩
     rw [zgt]
     refine ⟨rfl, fun q j hq hj => ?_⟩
     show izC std (zao (alZ c) (Nat.add 0 q)) j = izC std (zao (alZ c) q) j
     rw [yi3]
def yl0 (L : za7) (y : Ls) (host path : List UInt8) : Mc := L (L (L Mc.mk y) host) path
def yw6 (c : Mc) : Prop := zyb c /\ c.y.rs.length <= 20
noncomputable def yqa (L : za7) : zbf := (20, fun xs => match xs with
 | [x, .str host, .str path] => some (L zj5 x /\ L yw6 (yl0 L (L zcw x) host path), .lst 1 (L slE (yl0 L (L zcw x) host path)) (fun q => izC L (L (L zao (L alZ (yl0 L (L zcw x) host path))) q)))
 | _ => none)
theorem yk9 : zaz Tryz.prog (yqa std) := by
 intro xs p r h hp
 dsimp only [yqa] at h |-
 split at h <;> cases h
 try simp only [L2, L3, std] at hp |-
 rename_i x host path
 obtain ⟨ho, hok, h20⟩ := hp
 refine zws zd0 ho ?_
 exact yug (c := yl0 std (zcw x) host path) hok h20
end Sy
end Go.Proofs.YtogpolfhcbgcbaaGreatDoor
namespace Go.Proofs.YtogpolfhcbgcbaaGreatDoor
namespace Sy
open Go Go.RowKit
set_option maxRecDepth 100000
set_option linter.unusedSimpArgs false
set_option linter.unusedVariables false
noncomputable def ixF (l : List Iz) (x : Iz) : Nat := l.idxOf x
noncomputable def ixZ (l : List Iz) (x : Iz) : Int := if ixF l x < l.length then ixF l x else -1
def ypi (l : List Iz) (x : Iz) : Bool := decide (x ∈ l)
def ixzI (l : List Iz) (x : Iz) (i : Nat) : Prop := i <= l.length /\ ∀ j, j < i -> zao l j ≠ x
def ywg (l : List Iz) (i : Nat) : Nat := l.length - i
noncomputable def ixzA (L : za7) (l : List Iz) (x : Iz) : Nat -> St -> Option Ann := fun id st => match id with
 | 0 => some ⟨Nat, fun i => [(8, .int .i64 (L zac i))], fun i => [], [0, 1, 7], [], fun i => L3 L ixzI l x i, fun i => L2 L ywg l i⟩
 | _ => none
theorem ywi {l : List Iz} {x : Iz} {i : Nat} (hi : i < l.length) (h : ∀ j, j < i -> zao l j ≠ x) (he : zao l i = x) : ixZ l x = i := by
 have hget : ∀ j (hj : j < l.length), zao l j = l[j] := fun j hj => zav hj
 have h1 : l.idxOf x = i := by
   rw [hget i hi] at he
   have hm : x ∈ l := he ▸ List.getElem_mem hi
   have hlt := List.idxOf_lt_length_of_mem hm
   have hx := List.getElem_idxOf hlt
   rcases Nat.lt_trichotomy (l.idxOf x) i with h2 | h2 | h2
   · exact absurd ((hget _ hlt).trans hx) (h _ h2)
   · exact h2
   · have := List.not_of_lt_findIdx (p := (· == x)) (xs := l) (i := i) (by exact h2)
     simp [he] at this
 unfold ixZ ixF
 rw [h1, if_pos hi]
theorem ysu {l : List Iz} {x : Iz} (h : ∀ j, j < l.length -> zao l j ≠ x) : ixZ l x = -1 := by
 unfold ixZ ixF
 rw [if_neg]
 intro hlt
 exact h _ hlt ((zav hlt).trans (List.getElem_idxOf hlt))
theorem ywh (l : List Iz) (x : Iz) : ile 0 (ixZ l x) = ypi l x := by
 unfold ypi
 by_cases hm : x ∈ l
 · have hlt := List.idxOf_lt_length_of_mem hm
   rw [decide_eq_true hm, ydo]
   unfold ixZ ixF
   rw [if_pos hlt]; omega
 · rw [decide_eq_false hm, yo1, ysu]
   · omega
   · intro j hj he
     rw [show zao l j = l[j] from zav hj] at he
     exact hm (he ▸ List.getElem_mem hj)
noncomputable def ynt (L : za7) : zbf := (38, fun xs => match xs with
 | [l, .int .i64 x] => some (L ynb l /\ L zil (L ybv l), .int .i64 (L2 L ixZ (L ybv l) x))
 | _ => none)
theorem yit : zaz Tryz.prog (ynt std) := by
 intro xs p r h hp
 dsimp only [ynt] at h |-
 split at h <;> cases h
 try simp only [L2, L3, std] at hp |-
 rename_i a x
 obtain ⟨ho, hz⟩ := hp
 refine zhe zvx ho ?_
 have hz : zil (rdW izV a) := hz
 show za9 _ _ _ (.int .i64 (ixZ (rdW izV a) x))
 generalize rdW izV a = l at hz |-
 have hz : l.length <= 1000000 := hz
 refine za5 (T := tt) (S := noS) (lo := fun L => ixzA L l x) (lb := noA) 5 (fn := Tryz.f38) (xs := fun L => [ysm L l, .int .i64 x]) rfl rfl (by kernel_rfl) (by kernel_rfl) rfl zab (zc4 _) (by kernel_rfl) ?_
 intro L P' Q' hL hP hQ
 (cbv; try simp only [syT, true_and, and_true])
 refine ⟨⟨0, ?_⟩, fun i hi => ?_⟩
 · (cbv; try simp only [syT, true_and, and_true])
   subst hL
   exact ⟨fun _ _ _ _ => trivial, rfl, Nat.zero_le _, fun j hj => by omega⟩
 · obtain ⟨hi1, hi2⟩ : ixzI l x i := by
     have h := hi
     rw [hL] at h
     exact h
   clear hi
   obtain ⟨i', hi'⟩ : ∃ i', i' = i + 1 := ⟨_, rfl⟩
   (cbv; try simp only [syT, true_and, and_true])
   refine ⟨fun hlt => ⟨?_, fun he => ?_, fun hne => ⟨i', ?_⟩⟩, fun hge => ?_⟩
   · subst hL
     have h2 : ilt (zac i) (zac l.length) = true := hlt
     rw [zfv, zaa, zaa] at h2
     show inR (zac i) (zac l.length) = true
     exact zqo (by omega)
   · subst hL; subst hQ
     have h2 : ilt (zac i) (zac l.length) = true := hlt
     rw [zfv, zaa, zaa] at h2
     have he : ieq x (zao l i) = true := he
     rw [ydp] at he
     rw [zeg, ywi (by omega) hi2 he.symm]; rfl
   · (cbv; try simp only [syT, true_and, and_true])
     subst hL
     have h2 : ilt (zac i) (zac l.length) = true := hlt
     rw [zfv, zaa, zaa] at h2
     have hne : ieq x (zao l i) = false := hne
     rw [ydq] at hne
     refine ⟨fun _ _ _ _ => trivial, ?_, ⟨?_, fun j hj => ?_⟩, ?_⟩
     · show zhj .i64 (zac i) 1 = zac i'
       rw [hi', zga (n := l.length) (by omega) (by omega)]
     · omega
     · by_cases h : j < i
       · exact hi2 j h
       · obtain rfl : j = i := by omega
         exact fun h => hne h.symm
     · show l.length - i' < l.length - i
       omega
   · subst hL; subst hQ
     have h2 : ilt (zac i) (zac l.length) = false := hge
     rw [zju, zaa, zaa] at h2
     rw [zeg, ysu (fun j hj => hi2 j (by omega))]
noncomputable def yph (L : za7) : zbf := (18, fun xs => match xs with
 | [l, .int .i64 x] => some (L ynb l /\ L zil (L ybv l), .bool (L2 L ypi (L ybv l) x))
 | _ => none)
theorem yjw : zaz Tryz.prog (yph std) := by
 intro xs p r h hp
 dsimp only [yph] at h |-
 split at h <;> cases h
 try simp only [L2, L3, std] at hp |-
 rename_i a x
 obtain ⟨ho, hz⟩ := hp
 refine zhe zvx ho ?_
 have hz : zil (rdW izV a) := hz
 show za9 _ _ _ (.bool (ypi (rdW izV a) x))
 generalize rdW izV a = l at hz |-
 have hz : l.length <= 1000000 := hz
 refine za5 (T := tt) (S := fun L => zam [ynt L]) (lo := noA) (lb := noA) 5 (fn := Tryz.f18) (xs := fun L => [ysm L l, .int .i64 x]) rfl rfl (by kernel_rfl) (by kernel_rfl) rfl zab (za2 ⟨yit, trivial⟩) (by kernel_rfl) ?_
 intro L P' Q' hL hP hQ
 (cbv; try simp only [syT, true_and, and_true])
 subst hL; subst hQ
 obtain ⟨r1, r2⟩ := zc7 zvx l
 refine ⟨⟨r1, ?_⟩, ?_⟩
 · show zil (rdW izV (zyd std izV l))
   rw [r2]; exact hz
 · show zfs (.bool (ypi l x)) (.bool (ile 0 (ixZ (rdW izV (zyd std izV l)) x)))
   rw [r2, ywh, zak]
end Sy
end Go.Proofs.YtogpolfhcbgcbaaGreatDoor
namespace Go.Proofs.YtogpolfhcbgcbaaGreatDoor
namespace Sy
open Go Go.RowKit
set_option maxRecDepth 100000
set_option linter.unusedSimpArgs false
set_option linter.unusedVariables false
theorem zho (c : UInt8) (y : List UInt8) : ∀ x : List UInt8, zah c (x ++ c :: y) = zah c x ++ zah c y
 | [] => by
   show zah c (c :: y) = [] :: zah c y
   rw [zah, if_pos rfl]
 | a :: x => by
   have ih := zho c y x
   show zah c (a :: (x ++ c :: y)) = _
   rw [zah, zah]
   by_cases ha : a = c
   · rw [if_pos ha, if_pos ha, ih]; rfl
   · rw [if_neg ha, if_neg ha, ih]
     cases e : zah c x with
     | nil => exact absurd e (zkk c x)
     | cons z r => rfl
def zyz (p : List UInt8) : Prop := za8 p (p.length - 1) = 47
noncomputable def zbs (p : List UInt8) : List UInt8 := by
 classical
 exact if zyz p then p ++ [120] else p ++ [47, 120]
theorem zoa {s : List UInt8} (h : zd3 s = 0) : zjs s [47] = true /\ ¬ ype s /\ zwr zrw s = true /\ s.length <= 128 := by
 unfold zd3 at h
 split at h
 · cases h
 · rename_i h1
   split at h
   · cases h
   · rename_i h2
     simp only [not_or, Bool.not_eq_false] at h1
     exact ⟨h1.1, h1.2.1, h1.2.2, by omega⟩
theorem ycd {s : List UInt8} (h1 : zjs s [47] = true) (h2 : ¬ ype s) (h3 : zwr zrw s = true) (h4 : s.length <= 128) : zd3 s = 0 := by
 unfold zd3
 rw [if_neg, if_neg (by omega)]
 rw [h1, h3]
 simp [h2]
theorem zux {p t : List UInt8} (h : zjs p [47] = true) : zjs (p ++ t) [47] = true := by
 cases p with
 | nil => cases h
 | cons a r => exact h
theorem yc5 {p : List UInt8} (h : zjs p [47] = true) : 0 < p.length := by
 cases p with
 | nil => cases h
 | cons a r => exact Nat.succ_pos _
theorem znm {p : List UInt8} (h : zd3 p = 0) (hl : p.length <= 60) : zd3 (zbs p) = 0 /\ (zbs p).length <= 62 := by
 obtain ⟨h1, h2, h3, h4⟩ := zoa h
 have hp := yc5 h1
 have h3' : p.all (fun b => zrw (b.toNat : Int)) = true := h3
 unfold zbs
 by_cases he : zyz p
 · rw [if_pos he]
   refine ⟨ycd (zux h1) ?_ ?_ ?_, ?_⟩
   · rintro ⟨j, j1, j2, j3⟩
     rw [List.length_append] at j1
     have j1 : j + 1 < p.length + 1 := j1
     by_cases hj : j + 1 < p.length
     · rw [zfn (by omega)] at j2
       rw [zfn hj] at j3
       exact h2 ⟨j, hj, j2, j3⟩
     · rw [zkb (by omega), show j + 1 - p.length = 0 by omega] at j3
       revert j3; decide
   · show (p ++ [120]).all (fun b => zrw (b.toNat : Int)) = true
     rw [List.all_append, h3']; decide
   · rw [List.length_append]; show p.length + 1 <= 128; omega
   · rw [List.length_append]; show p.length + 1 <= 62; omega
 · rw [if_neg he]
   refine ⟨ycd (zux h1) ?_ ?_ ?_, ?_⟩
   · rintro ⟨j, j1, j2, j3⟩
     rw [List.length_append] at j1
     have j1 : j + 1 < p.length + 2 := j1
     by_cases hj : j + 1 < p.length
     · rw [zfn (by omega)] at j2
       rw [zfn hj] at j3
       exact h2 ⟨j, hj, j2, j3⟩
     · by_cases hj2 : j + 1 = p.length
       · rw [zfn (by omega)] at j2
         exact he (by unfold zyz; rw [show p.length - 1 = j by omega]; exact j2)
       · rw [zkb (by omega), show j + 1 - p.length = 1 by omega] at j3
         revert j3; decide
   · show (p ++ [47, 120]).all (fun b => zrw (b.toNat : Int)) = true
     rw [List.all_append, h3']; decide
   · rw [List.length_append]; show p.length + 2 <= 128; omega
   · rw [List.length_append]; show p.length + 2 <= 62; omega
theorem zsn {p : List UInt8} (hp : 0 < p.length) : zaj (zbs p) = zaj p ++ [[120]] := by
 have h1 : ze9 (zah 47 [120]) = [[120]] := by decide
 have hd : ∀ a b : List Lbx, ze9 (a ++ b) = ze9 a ++ ze9 b := fun a b => List.filter_append ..
 unfold zbs
 by_cases he : zyz p
 · rw [if_pos he]
   obtain ⟨q, rfl⟩ : ∃ q, p = q ++ [47] := by
     refine ⟨p.dropLast, ?_⟩
     have hne : p ≠ [] := by rintro rfl; cases hp
     have hx : p.getLast hne = 47 := by
       have h2 : za8 p (p.length - 1) = 47 := he
       rw [List.getLast_eq_getElem]
       unfold za8 at h2
       rw [List.getD_eq_getElem?_getD, List.getElem?_eq_getElem (by omega)] at h2
       have h2 : ((p[p.length - 1].toNat : Nat) : Int) = 47 := h2
       refine UInt8.toNat_inj.1 ?_
       show p[p.length - 1].toNat = 47
       omega
     rw [<- hx]
     exact (List.dropLast_concat_getLast hne).symm
   show ze9 (zah 47 ((q ++ [47]) ++ [120])) = ze9 (zah 47 (q ++ 47 :: [])) ++ [[120]]
   rw [List.append_assoc]
   show ze9 (zah 47 (q ++ 47 :: [120])) = _
   rw [zho, zho, hd, hd, h1, show ze9 (zah 47 []) = [] by decide, List.append_nil]
 · rw [if_neg he]
   show ze9 (zah 47 (p ++ 47 :: [120])) = ze9 (zah 47 p) ++ [[120]]
   rw [zho, hd, h1]
theorem ya7 {a p : List UInt8} (hp : 0 < p.length) (h : zww a p = true) : zww a (zbs p) = true := by
 unfold zww at h |-
 simp only [Bool.and_eq_true, decide_eq_true_eq] at h |-
 obtain ⟨h1, h2⟩ := h
 rw [zsn hp, List.length_append, List.take_append_of_le_length h1]
 exact ⟨by omega, h2⟩
def mcU (c : Mc) (p : List UInt8) : Mc := ⟨c.y, c.host, p⟩
theorem yi6 {c : Mc} (h0 : zd3 c.path = 0) (hl : c.path.length <= 60) {i : Nat} (h : mtB (mbQ (mcB c) i) = true) : mtB (mbQ (mcB (mcU c (zbs c.path))) i) = true := by
 have hp := yc5 (zoa h0).1
 have h : (decide (zd3 c.path = 0) && (zru (zbk c.y.rs i).h c.host && zww (zbk c.y.rs i).p c.path)) = true := h
 show (decide (zd3 (zbs c.path) = 0) && (zru (zbk c.y.rs i).h c.host && zww (zbk c.y.rs i).p (zbs c.path))) = true
 rw [Bool.and_eq_true, Bool.and_eq_true] at h
 obtain ⟨_, h2, h3⟩ := h
 rw [decide_eq_true (znm h0 hl).1, h2, ya7 hp h3]; rfl
theorem zuj {c c' : Mb} (h : ∀ i, mtB (mbQ c i) = true -> mtB (mbQ c' i) = true) : ∀ i, (zs2 c i).length <= (zs2 c' i).length
 | 0 => Nat.le_refl _
 | i + 1 => by
   have ih := zuj h i
   unfold zs2
   by_cases h1 : mtB (mbQ c i) = true
   · rw [if_pos h1, if_pos (h i h1), List.length_append, List.length_append]
     exact Nat.add_le_add_right ih _
   · rw [if_neg h1]
     split
     · rw [List.length_append]; omega
     · exact ih
theorem yqb {c : Mc} (h0 : zd3 c.path = 0) (hl : c.path.length <= 60) : (alZ c).length <= (alZ (mcU c (zbs c.path))).length /\ ∀ a ∈ alZ c, a ∈ alZ (mcU c (zbs c.path)) := by
 have hm : ∀ i, mtB (mbQ (mcB c) i) = true -> mtB (mbQ (mcB (mcU c (zbs c.path))) i) = true := fun i => yi6 h0 hl
 refine ⟨?_, fun a ha => ?_⟩
 · unfold alZ
   rw [zpf, zpf]
   exact zuj hm _
 · obtain ⟨q1, q2, q3⟩ := zu8.1 ha
   exact zu8.2 ⟨q1, q2, hm _ q3⟩
theorem yqc (c : Mc) {i : Nat} (hi : i + 1 < (alZ c).length) : ltM (mcB c) (zao (alZ c) (i + 1)) (zao (alZ c) i) = false := by
 have hd : yqu (ltM (mcB c)) (alZ c) := yaj (ysk _) _
 rw [show zao (alZ c) (i + 1) = (alZ c)[i + 1] from zav hi, show zao (alZ c) i = (alZ c)[i] from zav (by omega)]
 exact List.pairwise_iff_getElem.1 hd i (i + 1) (by omega) hi (by omega)
end Sy
end Go.Proofs.YtogpolfhcbgcbaaGreatDoor
namespace Go.Proofs.YtogpolfhcbgcbaaGreatDoor
namespace Sy
open Go Go.RowKit
set_option maxRecDepth 100000
set_option maxHeartbeats 4000000
set_option linter.unusedSimpArgs false
set_option linter.unusedVariables false
def yql (s : List UInt8) : Prop := s.length <= maxLen
def yr1 (x : Rt) : Prop := yql x.h
def ygj (x : Ls) : Prop := ∀ r ∈ x.rs, yr1 r
theorem ycg {H : Type} {enc : TypeId × Value -> H} {W : World} : zen enc Tryz.prog W 37 Rt 4 (rtC std) yr1 :=
 (zg3 Tryz.underlying37 (by kernel_rfl) (zbj rfl (opens_str Tryz.underlying9 (by kernel_rfl)) (zbj rfl (opens_str Tryz.underlying9 (by kernel_rfl)) (zbj rfl (opens_str Tryz.underlying9 (by kernel_rfl)) (zbj rfl (zl0 Tryz.underlying35 (by kernel_rfl)) (zj4 _)))))).turn
   (fun y => Rt.mk y.1 y.2.1 y.2.2.1 y.2.2.2.1) (fun y h => h.1)
   (fun y h j hj v r => by match j, hj with | 0, _ => exact r | 1, _ => exact r | 2, _ => exact r | 3, _ => exact r)
theorem opens_LsZ {H : Type} {enc : TypeId × Value -> H} {W : World} : zen enc Tryz.prog W 28 Ls 7 (lsC std) ygj :=
 (zg3 Tryz.underlying28 (by kernel_rfl) (zbj rfl (opens_str Tryz.underlying9 (by kernel_rfl)) (zbj rfl yht (zbj rfl (zy2 (V := rtV) Tryz.underlying26 (by kernel_rfl) ycg (by decide)) (zj4 _))))).turn
   (fun y => Ls.mk y.1 y.2.1 y.2.2.1) (fun y h => h.2.2.1.2)
   (fun y h j hj v r => by match j, hj with | 0, _ => exact r | 1, _ => exact r | 2, _ => exact r | 3, _ => exact r | 4, _ => exact r | 5, _ => exact r | 6, _ => exact r)
theorem ycz : maxLen <= 9223372036854775807 := by decide
theorem yt8 {y : Ls} {host : List UInt8} (hy : ygj y) (hh : yql host) : yoa y host := ⟨Nat.le_trans hh ycz, fun r hr => Nat.le_trans (hy r hr) ycz⟩
theorem ftt : zfs (.bool true) (.bool true) := by rw [zak]
end Sy
end Go.Proofs.YtogpolfhcbgcbaaGreatDoor
namespace Go.Proofs.YtogpolfhcbgcbaaGreatDoor
namespace Sy
open Go Go.RowKit
set_option maxRecDepth 100000
set_option maxHeartbeats 4000000
set_option linter.unusedSimpArgs false
set_option linter.unusedVariables false
def maI (c : Mc) (i : Nat) : Prop := True
noncomputable def ynk (c : Mc) (i : Nat) : Nat := (alZ c).length - i
noncomputable def maA (L : za7) (c : Mc) : Nat -> St -> Option Ann := fun id st => match id with
 | 0 => some ⟨Nat, fun i => [(48, .int .i64 (L zac i))], fun i => [], [1, 2, 3, 7, 9, 46, 47], [3], fun i => L2 L maI c i, fun i => L2 L ynk c i⟩
 | _ => none
theorem ynj (y : Ls) (hy : ygj y) (host path : List UInt8) (hh : yql host) (hp : yql path) : za9 Tryz.prog 5 [.agg ((List.range 7).map (lsC std y)), .str host, .str path] (.bool true) := by
 refine za5 (T := tt) (S := fun L => zam [tru 6, yo9 L, zs7 L, yqa L, yph L, ybl L, yca L]) (lo := fun L => maA L (yl0 L y host path)) (lb := noA) 5 (fn := Tryz.f5) (xs := fun L => [.agg [lsC L y 0, lsC L y 1, lsC L y 2, lsC L y 3, lsC L y 4, lsC L y 5, lsC L y 6], .str host, .str path]) rfl rfl (by kernel_rfl) (by kernel_rfl) rfl zab (za2 ⟨zbw zz7, yj1, zxn, yk9, yjw, zo2, zo9, trivial⟩) (by kernel_rfl) ?_
 intro L P' Q' hL hP hQ
 have hG : L zcw (.agg [.str (L Ls.n y), .int .u8 (L Pl.a (L Ls.pl y)), .int .u8 (L Pl.b (L Ls.pl y)), .int .u8 (L Pl.c (L Ls.pl y)), .int .u8 (L Pl.d (L Ls.pl y)), .int .u16 (L Pl.p (L Ls.pl y)), .lst 4 (L zcm (L Ls.rs y)) (fun i => rtC L (L (L zbk (L Ls.rs y)) i))]) = y := by subst hL; exact (gK zd0 y _ rfl).2
 have hO : L zj5 (.agg [.str (L Ls.n y), .int .u8 (L Pl.a (L Ls.pl y)), .int .u8 (L Pl.b (L Ls.pl y)), .int .u8 (L Pl.c (L Ls.pl y)), .int .u8 (L Pl.d (L Ls.pl y)), .int .u16 (L Pl.p (L Ls.pl y)), .lst 4 (L zcm (L Ls.rs y)) (fun i => rtC L (L (L zbk (L Ls.rs y)) i))]) := by subst hL; exact (gK zd0 y _ rfl).1
 (cbv; try simp only [syT, true_and, and_true])
 simp only [hG, hO, true_and]
 have k1 : (L not (L (L ydw y) host) = false) -> ydw y host = true := fun h => by
   rw [hL] at h
   have h : (!ydw y host) = false := h
   simpa using h
 have k2 : (L (L ilt 60) (L slen path) = false) -> path.length <= 60 := fun h => by
   rw [hL] at h
   have h : ilt 60 (slen path) = false := h
   rw [zju, ziw] at h
   omega
 have k3 : (L (L ine (L zd3 path)) 0 = false) -> zd3 path = 0 := fun h => by
   rw [hL] at h
   have h : ine (zd3 path) 0 = false := h
   rw [ydh] at h
   exact h
 have fT : Q' (.bool true) := by rw [hQ]; exact ftt
 refine ⟨fun h => absurd h (by rw [hL]; decide), fun _ => ⟨by rw [hL]; exact yt8 hy hh, fun _ => fT, fun c1 => ⟨fun _ => fT, fun c2 => ⟨by rw [hL]; exact Nat.le_trans (k2 c2) (by decide), fun _ => fT, fun c3 => ?_⟩⟩⟩⟩
 have c1 := k1 c1
 have c2 := k2 c2
 have c3 := k3 c3
 clear k1 k2 k3
 obtain ⟨hmb, hl20, hne⟩ := yl7 c1 (show path.length <= 300 by omega)
 have hpos := yc5 (zoa c3).1
 obtain ⟨bz, bl⟩ := znm c3 c2
 obtain ⟨hmbB, _, _⟩ := yl7 c1 (show (zbs path).length <= 300 by omega)
 have cat : ∀ s : List UInt8, s.length <= 2 -> L (L yf6 path) s = true := fun s hs => by
   rw [hL]
   show yf6 path s = true
   rw [yf5]; omega
 obtain ⟨c, hc⟩ : ∃ c, yl0 L y host path = c := ⟨_, rfl⟩
 have hcc : c = ⟨y, host, path⟩ := by rw [<- hc, hL]; rfl
 have m20 : L yw6 c := by
   rw [hL, hcc]; exact ⟨hmb, hl20⟩
 have m20B : ∀ b, b = zbs path -> L yw6 (yl0 L y host b) := fun b hb => by
   rw [hL, hb]; exact ⟨hmbB, hl20⟩
 have hwl : zin .i64 (slen path) 1 = ((path.length - 1 : Nat) : Int) := by
   rw [ziw]; unfold zin; rw [zio]; omega
 simp only [hc]
 have b1 : L (L ieq (L (L zgk path) (L (L (zin IntKind.i64) (L slen path)) 1))) 47 = true -> ∃ b, L (L yrl path) [120] = b /\ b = zbs path := fun hs => by
   refine ⟨_, rfl, ?_⟩
   rw [hL] at hs |-
   have hs : ieq (zgk path (zin .i64 (slen path) 1)) 47 = true := hs
   rw [hwl, ydp] at hs
   have he : zyz path := hs
   show path ++ [120] = zbs path
   unfold zbs
   rw [if_pos he]
 have b2 : L (L ieq (L (L zgk path) (L (L (zin IntKind.i64) (L slen path)) 1))) 47 = false -> ∃ b, L (L yrl path) [47, 120] = b /\ b = zbs path := fun hs => by
   refine ⟨_, rfl, ?_⟩
   rw [hL] at hs |-
   have hs : ieq (zgk path (zin .i64 (slen path) 1)) 47 = false := hs
   rw [hwl, ydq] at hs
   have he : ¬ zyz path := hs
   show path ++ [47, 120] = zbs path
   unfold zbs
   rw [if_neg he]
 have h20 : slE c <= 20 := by rw [hcc]; exact Nat.le_trans (zhq _ _) hl20
 have hmc : zyb c := by rw [hcc]; exact hmb
 obtain ⟨am1, am2⟩ : (alZ c).length <= (alZ (mcU c (zbs c.path))).length /\ ∀ a ∈ alZ c, a ∈ alZ (mcU c (zbs c.path)) := by
   rw [hcc]; exact yqb (c := ⟨y, host, path⟩) c3 c2
 have hU : mcU c (zbs c.path) = ⟨y, host, zbs path⟩ := by rw [hcc]; rfl
 rw [hU] at am1 am2
 have aE : ∀ q, q < slE c -> mcE c (zao (alZ c) q) := fun q hq => by
   have hq : q < (alZ c).length := by rw [zfp]; exact hq
   rw [show zao (alZ c) q = (alZ c)[q] from zav hq]
   obtain ⟨e1, e2, _⟩ := zu8.1 (List.getElem_mem hq)
   exact ⟨e1, e2⟩
 have aQ : ∀ q, q < slE c -> inR (zao (alZ c) q) (zac y.rs.length) = true := fun q hq => by
   have := aE q hq
   rw [hcc] at this |-
   rw [zmg, zaa]; exact this
 have aR : ∀ q, q < slE c -> zl8 (zjt std (zbk y.rs (zao (alZ c) q).toNat).h (zbk y.rs (zao (alZ c) q).toNat).p host path) := fun q hq => by
   have h := aE q hq
   have := zn2 hmc (i := (zao (alZ c) q).toNat) (by have := h.1; have := h.2; show _ < c.y.rs.length; omega)
   rw [hcc] at this |-
   exact this
 have hwi : ∀ i, 0 < i -> i < slE c -> zin .i64 (zac i) 1 = zac (i - 1) := fun i h0 h1 => ydc h0 (Nat.le_of_lt h1) (by omega)
 refine ⟨m20, cat _ (by decide), ?_, fun hs => ⟨cat _ (by decide), ?_⟩, fun hs => ?_⟩
 · rw [hL]
   show inR (zin .i64 (slen path) 1) (slen path) = true
   rw [hwl, zmg, ziw]; omega
 case' refine_2 => obtain ⟨b, hb, hbb⟩ := b1 hs; simp only [hb]
 case' refine_3 => obtain ⟨b, hb, hbb⟩ := b2 hs; simp only [hb]
 all_goals
   obtain ⟨c', hc'⟩ : ∃ c', yl0 L y host b = c' := ⟨_, rfl⟩
   have hcc' : c' = ⟨y, host, zbs path⟩ := by rw [<- hc', hL, hbb]; rfl
   have r20 : slE c' <= 20 := by rw [hcc']; exact Nat.le_trans (zhq _ _) hl20
   have hr : L ynb (.lst 1 (L slE c') fun q => izC L (L (L zao (L alZ c')) q)) /\ L ybv (.lst 1 (L slE c') fun q => izC L (L (L zao (L alZ c')) q)) = alZ c' := by
     rw [hL]
     exact zuq zvx (n := slE c') (l := alZ c') (zfp c').symm (fun _ _ _ _ => rfl)
   refine ⟨m20B b hbb, ⟨0, ?_⟩, fun i _ => ?_⟩
   · (cbv; try simp only [syT, true_and, and_true])
     subst hL
     exact ⟨fun _ _ _ _ => trivial, fun _ _ _ _ => trivial, fun _ _ _ _ => trivial, fun _ _ _ _ => trivial, rfl, trivial⟩
   · obtain ⟨i', hi'⟩ : ∃ i', i' = i + 1 := ⟨_, rfl⟩
     (cbv; try simp only [syT, true_and, and_true])
     simp only [hc, hc', hr.1, hr.2, true_and]
     refine ⟨fun hlt => ?_, fun hge => ?_⟩
     · have hil : i < slE c := by
         rw [hL] at hlt
         have h2 : ilt (zac i) (zac (slE c)) = true := hlt
         rw [zfv, zaa, zaa] at h2; omega
       have hst : ∀ {P' : Prop}, P' -> P' := fun h => h
       refine ⟨by rw [hL]; exact zqo hil, by rw [hL]; show (alZ c').length <= 1000000; rw [zfp]; omega, fun hno => ?_, fun _ => ⟨fun h0 => ?_, fun h0 => ⟨i', ?_⟩⟩⟩
       · exfalso
         rw [hL] at hno
         have hno : (!ypi (alZ c') (zao (alZ c) i)) = true := hno
         have : zao (alZ c) i ∈ alZ c' := by
           rw [hcc']
           refine am2 _ ?_
           rw [show zao (alZ c) i = (alZ c)[i]'(by rw [zfp]; exact hil) from zav _]
           exact List.getElem_mem _
         unfold ypi at hno
         rw [decide_eq_true this] at hno
         cases hno
       · have hi0 : 0 < i := by
           rw [hL] at h0
           have h2 : ilt 0 (zac i) = true := h0
           rw [zfv, zaa] at h2; omega
         have hwL : L (L (zin .i64) (L zac i)) 1 = L zac (i - 1) := by rw [hL]; exact hwi i hi0 hil
         have hto : ∀ k : Nat, L Int.toNat (L zac k) = k := fun k => by rw [hL]; rfl
         simp only [hwL, hto]
         obtain ⟨qA, hqA⟩ : ∃ q, zjt L (L Rt.h (L (L zbk (L Ls.rs y)) (L Int.toNat (L (L zao (L alZ c)) i)))) (L Rt.p (L (L zbk (L Ls.rs y)) (L Int.toNat (L (L zao (L alZ c)) i)))) host path = q := ⟨_, rfl⟩
         obtain ⟨qB, hqB⟩ : ∃ q, zjt L (L Rt.h (L (L zbk (L Ls.rs y)) (L Int.toNat (L (L zao (L alZ c)) (i - 1))))) (L Rt.p (L (L zbk (L Ls.rs y)) (L Int.toNat (L (L zao (L alZ c)) (i - 1))))) host path = q := ⟨_, rfl⟩
         simp only [hqA, hqB]
         have oA : zl8 qA := by rw [<- hqA, hL]; exact aR i hil
         have oB : zl8 qB := by rw [<- hqB, hL]; exact aR (i - 1) (by omega)
         have eA : qA = mbQ (mcB c) (zao (alZ c) i).toNat := by rw [<- hqA, hL, hcc]; rfl
         have eB : qB = mbQ (mcB c) (zao (alZ c) (i - 1)).toNat := by rw [<- hqB, hL, hcc]; rfl
         obtain ⟨ra1, ra2⟩ := zq0 oA
         obtain ⟨rb1, rb2⟩ := zq0 oB
         have hdes : ilt (ygg (fOf (rk1 qB)) (fOf (rk2 qB)) (fOf (rk1 qA)) (fOf (rk2 qA))) 0 = false := by
           rw [yfl rb1 rb2 ra1 ra2]
           have h := yqc c (i := i - 1) (by rw [zfp]; omega)
           rw [show i - 1 + 1 = i by omega] at h
           unfold ltM at h
           rw [eA, eB]; exact h
         refine ⟨by rw [hL]; exact zqo (i := i - 1) (n := slE c) (by omega), by rw [hL]; exact aQ (i - 1) (by omega), by rw [hL]; exact oB, by rw [hL]; exact aQ i hil, by rw [hL]; exact oA, by rw [hL]; exact ⟨⟨zdc rb1, zdc rb2⟩, zdc ra1, zdc ra2⟩, fun hx => ?_, fun _ => ⟨i', ?_⟩⟩
         · exfalso
           rw [hL] at hx
           have hx : ilt (ygg (fOf (rk1 qB)) (fOf (rk2 qB)) (fOf (rk1 qA)) (fOf (rk2 qA))) 0 = true := hx
           rw [hdes] at hx; cases hx
         · (cbv; try simp only [syT, true_and, and_true])
           subst hL
           refine ⟨fun _ _ _ _ => trivial, fun _ _ _ _ => trivial, fun _ _ _ _ => trivial, fun _ _ _ _ => trivial, ?_, trivial, ?_⟩
           · show zhj .i64 (zac i) 1 = zac i'
             rw [hi', zga hil (by omega)]
           · show ynk ⟨y, host, path⟩ i' < ynk ⟨y, host, path⟩ i
             unfold ynk
             rw [<- hcc, zfp]
             omega
       · (cbv; try simp only [syT, true_and, and_true])
         subst hL
         refine ⟨fun _ _ _ _ => trivial, fun _ _ _ _ => trivial, fun _ _ _ _ => trivial, fun _ _ _ _ => trivial, ?_, trivial, ?_⟩
         · show zhj .i64 (zac i) 1 = zac i'
           rw [hi', zga hil (by omega)]
         · show ynk ⟨y, host, path⟩ i' < ynk ⟨y, host, path⟩ i
           unfold ynk
           rw [<- hcc, zfp]
           omega
     · rw [hQ, hL]
       show zfs (.bool true) (.bool (ile (zac (slE c)) (zac (slE c'))))
       rw [zak, ydo, zaa, zaa, <- zfp, <- zfp, hcc']
       omega
theorem law_MatchAll (y : Ls) (hy : ygj y) (host : List UInt8) (hh : yql host) (path : List UInt8) (hp : yql path) : za9 Tryz.prog 5 [.agg ((List.range 7).map (lsC std y)), .str host, .str path] (.bool true) := ynj y hy host path hh hp
end Sy
end Go.Proofs.YtogpolfhcbgcbaaGreatDoor
namespace Go.Proofs.YtogpolfhcbgcbaaGreatDoor
namespace Sy
open Go
set_option linter.unusedVariables false
theorem zt3 {P : Program} {w : World} {n : String} {d : DataW Unit} : ∀ {l : List (String × DataW Unit)} {ps : List MemPlace}, DataW.LaidVars P w l ps -> (n, d) ∈ l ->
   ∃ g t cs fuel p, P.globalNamed n = some g /\ (P.globals[g]?).map (·.type) = some t /\ w.var? P n = some cs /\ DataW.trod (fun _ => ()) P w 0 (fun _ => true) false fuel t cs.toList = some (d, p)
 | x :: r, ps, h, hm => by
   obtain ⟨n', d'⟩ := x
   obtain ⟨g, t, cs, fuel, p, q, h1, h2, h3, h4, h5, _⟩ := h
   rcases List.mem_cons.1 hm with e | hm
   · cases e
     exact ⟨g, t, cs, fuel, p, h1, h2, h3, h4⟩
   · exact zt3 h5 hm
theorem laid_tab {P : Program} {w : World} {name : String} {k : IntKind} {zs : List Int} {l : List (String × DataW Unit)} (h : laidMet P l w) (hm : (name, Lib.tabData k zs) ∈ l) {g : Nat} {t e : TypeId} {n : Nat}
   (hg : P.globalNamed name = some g) (hty : (P.globals[g]?).map (·.type) = some t) (ht : P.underlying t = some (.array n e)) (he : P.underlying e = some (.int k)) (hce : P.cellsOf e = 1) (hct : P.cellsOf t = n) : Lib.TabIs P w name k zs := by
 obtain ⟨ps, hv, _⟩ := h
 obtain ⟨g', t', cs, fuel, p, hg', ht', hvar, hd⟩ := zt3 hv hm
 obtain rfl := Option.some.inj (hg.symm.trans hg')
 obtain rfl := Option.some.inj (hty.symm.trans ht')
 unfold Lib.TabIs
 rw [hvar, <- Lib.cells_of_tab ht he hce hct hd]
theorem laid_ifc {P : Program} {w : World} {name nm : String} {d : DataW Unit} {l : List (String × DataW Unit)} (h : laidMet P l w) (hm : (name, .iface nm d) ∈ l) {g : Nat} {t : TypeId} {ms : Array (String × TypeId)}
   (hg : P.globalNamed name = some g) (hty : (P.globals[g]?).map (·.type) = some t) (ht : P.underlying t = some (.interface ms)) : ∃ te pe, w.var? P name = some #[.iface te pe] := by
 obtain ⟨ps, hv, _⟩ := h
 obtain ⟨g', t', cs, fuel, p, hg', ht', hvar, hd⟩ := zt3 hv hm
 obtain rfl := Option.some.inj (hg.symm.trans hg')
 obtain rfl := Option.some.inj (hty.symm.trans ht')
 obtain ⟨f2, u, v, e, _, _⟩ := iface_of_trod ht hd
 refine ⟨u, v, ?_⟩
 rw [hvar]
 obtain ⟨l0⟩ := cs
 have e : l0 = [.iface u v] := e
 rw [e]
theorem max_is {w : World} (h : w.ShapedOpen Tryz.prog) (hm : ∀ g, Tryz.prog.globalNamed "internal/bytealg.MaxLen" = some g -> ∃ zero t, g < Tryz.prog.globals.size /\ ((begin Tryz.prog (fun _ _ => 0) default).world.heap[g]?).bind Obj.row? = some (zero, t) /\ zero.size = 1 /\ Tryz.prog.buildable t = true /\ Tryz.prog.cellTypes Tryz.prog.depth t = some [t] /\ Tryz.prog.underlying t = some (.int .i64)) : yg5 w := by
 intro g hg
 obtain ⟨zero, t, h1, h2, h3, h4, h5, h6⟩ := hm g hg
 exact Go.Proofs.cell_of_shapedOpen_int h h1 h2 h3 h4 h5 h6
theorem returns_and_shaped {H : Type} {enc : TypeId × Value -> H} {a : Assume} {C : Checked} {os : Os} {f : FuncId} {fn : Func} {s : ChangeSpec} {conds : List PathCond} {apart fresh handsOn again : Bool} {X : World -> Array Value -> Prop}
   (hX : ∀ (w w' : World) (args : Array Value), w.heap = w'.heap -> X w args -> X w' args)
   (own : ownKnob C.prog.godebug = none) (started : os.Started) (noInit : C.prog.inits.idxOf? f = none) (hfn : C.prog.funcs[f]? = some fn)
   (witness : ∃ (w : World) (tape : Tape) (i : Input), w.os = os /\ (w.forCall tape i).Shaped C.prog /\ i.vars = [] /\ Input.okWide C.prog (w.forCall tape i) .any w.heap.size f i /\
     ((s.pre enc C.prog fn conds apart (w.forCall tape i).memory i.args /\ X (w.forCall tape i).memory i.args) /\ sizedMet enc C.prog fn (OpenSpec.ofChange s) apart (w.forCall tape i).memory i.args) /\ a.holds C.prog (lone (Frame.enter C.prog f i.args .normal) [] (w.forCall tape i)))
   (contract : ∀ (W : World) (base : Nat) (args : Array Value) (ds gs : List (DataW H)) (before : List MemPlace),
     (∀ (j : Nat) t v, fn.params[j]? = some t -> args[j]? = some v -> Value.okWide C.prog W .any base t v) ->
     DataW.Whole enc C.prog fn.params.toList s.vars apart W args.toList ds gs before ->
     conds.all (PathCond.test C.prog ⟨fn.params.toList, ds, s.plain.varTypes C.prog, gs⟩) = true ->
     (DataW.weightsEach C.prog (fn.params.toList ++ s.plain.varTypes C.prog) (ds ++ gs)).all (· <= reachBytes) = true -> X W args -> W.ShapedOpen C.prog ->
     a.holds C.prog (lone (Frame.enter C.prog f args .normal) [] W) ->
     Calls C.prog f args W fun e W' => ∃ v, e = .returned v /\ s.post enc C.prog fn apart fresh handsOn again W args v W') :
   ReturnsInHanded a C os f .any (fun w args => (s.pre enc C.prog fn conds apart w args /\ X w args) /\ sizedMet enc C.prog fn (OpenSpec.ofChange s) apart w args) (s.post enc C.prog fn apart fresh handsOn again) := by
 refine returnsInHanded_of_calls own started noInit witness ?_
 intro w tape i _ hsh _ hok hpre hholds
 obtain ⟨_, _, _, fn', hfn', _, _, _, _, hval⟩ := hok
 have e : fn' = fn := Option.some.inj (hfn'.symm.trans hfn)
 subst e
 obtain ⟨⟨⟨ds, gs, before, hw, hc⟩, hx⟩, hz⟩ := hpre
 have hw' := DataW.Whole.of_heap (w' := w.forCall tape i) (by rfl) hw
 refine (contract (w.forCall tape i) w.heap.size i.args ds gs before hval hw' hc (hz.weights hw) (hX _ _ _ (by rfl) hx) hsh hholds).mono fun e W' ⟨v, he, hp⟩ => ?_
 subst he
 exact ChangeSpec.post_blind hp
end Sy
end Go.Proofs.YtogpolfhcbgcbaaGreatDoor
