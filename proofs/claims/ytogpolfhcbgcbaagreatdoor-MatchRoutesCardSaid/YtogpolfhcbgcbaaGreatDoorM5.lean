/-Chapter 7 (codec): bare, the same; the document's. Chapter 7 (codec): the same; the document's bare, same; and what stands between these and the texts behind.-/
import Derived.Test.YtogpolfhcbgcbaaGreatDoorM4
namespace Go.Proofs.YtogpolfhcbgcbaaGreatDoor
namespace Sy
open Go Go.RowKit
set_option maxRecDepth 100000
set_option linter.unusedSimpArgs false
set_option linter.unusedVariables false
theorem zjz : ∀ l : List CV, zdq l = true ↔ ∀ i, i < l.length -> zg0 (zdv l i) = true
 | [] => by rw [zdq]; simp
 | v :: l => by
   rw [zdq, Bool.and_eq_true, zjz l]
   refine ⟨fun ⟨h1, h2⟩ i hi => ?_, fun h => ⟨h 0 (by simp), fun i hi => h (i + 1) (by simpa using hi)⟩⟩
   cases i with
   | zero => exact h1
   | succ i => exact h2 i (by simpa using hi)
def yk0 (l : List CV) : Int := if zdq l = true then -1 else (l.findIdx fun v => !zg0 v : Nat)
def yvi (l : List CV) (i : Nat) : Prop := i <= l.length /\ ∀ j, j < i -> zg0 (zdv l j) = true
theorem ype {l : List CV} {i : Nat} (hi : i < l.length) (h : ∀ j, j < i -> zg0 (zdv l j) = true) (hn : zg0 (zdv l i) = false) : yk0 l = (i : Int) := by
 have hb : ¬ zdq l = true := by
   rw [zjz]
   intro h2
   have := h2 i hi
   rw [hn] at this; cases this
 rw [yk0, if_neg hb]
 congr 1
 rw [List.findIdx_eq hi]
 have get : ∀ (j : Nat) (hj : j < l.length), l[j] = zdv l j := by
   intro j hj
   rw [zdv, List.getD_eq_getElem?_getD, List.getElem?_eq_getElem hj]; rfl
 refine ⟨by rw [get i hi, hn]; rfl, fun j hj => ?_⟩
 have hj' := h j hj
 rw [get j (by omega), hj']; rfl
theorem yjz {l : List CV} (h : ∀ j, j < l.length -> zg0 (zdv l j) = true) : yk0 l = -1 := by rw [yk0, if_pos ((zjz l).2 h)]
theorem ypd (l : List CV) : (0 <= yk0 l) = (zdq l = false) := by
 unfold yk0
 split
 · rename_i h; rw [h]; simp
 · rename_i h; simp at h; rw [h]; simp
def ywe (N : Nat) (L : zab) : zbb := (134, fun xs => match xs with
 | [.agg [.int .i64 k, .int .u64 n, .str s, x]] => some (L okL x /\ L2 L zqj N (mkV L k n s x), .bool (L not (L zg0 (mkV L k n s x))))
 | _ => none)
def yw8 (N : Nat) (L : zab) : zbb := (145, fun xs => match xs with
 | [x, .fn 134 [] []] => some (L okL x /\ L2 L zst N (L rdL x), .int .i64 (L yk0 (L rdL x)))
 | _ => none)
def cf_s (N : Nat) (L : zab) : zbb := (133, fun xs => match xs with
 | [x, .fn 134 [] []] => some (L okL x /\ L2 L zst N (L rdL x), .bool (L not (L zdq (L rdL x))))
 | _ => none)
def zod (N : Nat) (L : zab) : zbb := (110, fun xs => match xs with
 | [.agg [.int .i64 k, .int .u64 n, .str s, x]] => some (L okL x /\ L2 L zqj N (mkV L k n s x), .bool (L zg0 (mkV L k n s x)))
 | _ => none)
theorem yxn (l : List CV) : ieq ((lenL l : Nat) : Int) 0 = l.isEmpty := by
 cases l with
 | nil => rfl
 | cons v l =>
   simp [lenL, ieq]
   omega
theorem yu4 (a b : Int) : (ile a b = false) = ¬ a <= b := by simp [ile]
theorem b1_of {N : Nat} (ih : zay Tryz.prog (zod N std)) : zay Tryz.prog (ywe N std) := by
 intro xs p r h hp
 unfold ywe at h
 simp only at h
 split at h
 rotate_left
 · cases h
 rename_i k n s x
 cases h
 obtain ⟨ho, hz⟩ := hp
 refine ywf ho ?_
 rw [show mkV std k n s x = .mk k n s (rdL x) from rfl] at hz |-
 generalize rdL x = l at hz |-
 have hz : zqj N (.mk k n s l) := hz
 refine za8 (xs := fun L => [.agg [.int .i64 k, .int .u64 n, .str s, cvL L l]]) (T := tt) (S := fun L => zam [zod N L]) (lo := noA) (lb := noA) 5 (fn := Tryz.f134) rfl rfl (by kernel_rfl) (by kernel_rfl) rfl zac (za2 ⟨ih, trivial⟩) (by kernel_rfl) ?_
 intro L P' Q' hL hP hQ
 (cbv; try simp only [syT, true_and, and_true])
 (subst hL; subst hQ; simp only [L2, L3, std] at *; try simp only [syS, reduceCtorEq, Int.reduceToNat, Int.reduceAdd, Int.reduceSub] at *)
 rw [rdl, mkl]
 exact ⟨⟨okl l, hz⟩, rfl⟩
def ifA (L : zab) (l : List CV) : Nat -> St -> Option Ann := fun id s => match id with
 | 0 => some ⟨Nat, fun i => [(8, .int .i64 (L za7 i))], fun i => [], [0, 1, 6, 7], [],
     fun i => L2 L yvi l i, fun i => L2 L (fun (l : List CV) (i : Nat) => l.length - i) l i⟩
 | _ => none
theorem yxy {N : Nat} (ih : zay Tryz.prog (ywe N std)) : zay Tryz.prog (yw8 N std) := by
 intro xs p r h hp
 unfold yw8 at h
 simp only at h
 split at h
 rotate_left
 · cases h
 rename_i x
 cases h
 obtain ⟨ho, hz⟩ := hp
 refine ywg ho ?_
 have hz : zst N (rdL x) := hz
 show zad _ _ _ (.int .i64 (yk0 (rdL x)))
 generalize rdL x = l at hz |-
 refine za8 (T := tt) (S := fun L => zam [ywe N L]) (lo := fun L => ifA L l) (lb := noA) 5 (fn := Tryz.f145) (xs := fun L => [cvL L l, .fn 134 [] []]) rfl rfl (by kernel_rfl) (by kernel_rfl) rfl zac
   (za2 ⟨ih, trivial⟩) (by kernel_rfl) ?_
 intro L P' Q' hL hP hQ
 (cbv; try simp only [syT, true_and, and_true])
 refine ⟨⟨0, ?_⟩, fun i hi => ?_⟩
 · (cbv; try simp only [syT, true_and, and_true])
   (subst hL; subst hQ; simp only [L2, L3, std] at *; try simp only [syS, reduceCtorEq, Int.reduceToNat, Int.reduceAdd, Int.reduceSub] at *)
   exact ⟨Nat.zero_le _, fun j hj => by omega⟩
 · cbv at hi
   (cbv; try simp only [syT, true_and, and_true])
   refine ⟨fun hlt => ⟨?_, ⟨?_, ?_⟩, fun hb => ?_, fun hb => ⟨i + 1, ?_⟩⟩, fun hge => ?_⟩
   · (subst hL; subst hQ; simp only [L2, L3, std] at *; try simp only [syS, reduceCtorEq, Int.reduceToNat, Int.reduceAdd, Int.reduceSub] at *)
     omega
   · (subst hL; subst hQ; simp only [L2, L3, std] at *; try simp only [syS, reduceCtorEq, Int.reduceToNat, Int.reduceAdd, Int.reduceSub] at *)
     exact (zlh _).2
   · (subst hL; subst hQ; simp only [L2, L3, std] at *; try simp only [syS, reduceCtorEq, Int.reduceToNat, Int.reduceAdd, Int.reduceSub] at *)
     rw [zdw]
     exact zvz hz (by have : lenL l = l.length := rfl; omega)
   · (subst hL; subst hQ; simp only [L2, L3, std] at *; try simp only [syS, reduceCtorEq, Int.reduceToNat, Int.reduceAdd, Int.reduceSub] at *)
     rw [zc4] at hb
     exact (ype (by have : lenL l = l.length := rfl; omega) hi.2 hb).symm
   · (cbv; try simp only [syT, true_and, and_true])
     (subst hL; subst hQ; simp only [L2, L3, std] at *; try simp only [syS, reduceCtorEq, Int.reduceToNat, Int.reduceAdd, Int.reduceSub] at *)
     rw [zc4] at hb
     have : lenL l = l.length := rfl
     have := znr l
     have h1 := hz.1
     have h2 := hz.2
     refine ⟨by omega, ⟨by omega, fun j hj => ?_⟩, by omega⟩
     by_cases e : j = i
     · rw [e]; exact hb
     · exact hi.2 j (by omega)
   · (subst hL; subst hQ; simp only [L2, L3, std] at *; try simp only [syS, reduceCtorEq, Int.reduceToNat, Int.reduceAdd, Int.reduceSub] at *)
     have : lenL l = l.length := rfl
     exact (yjz fun j hj => hi.2 j (by omega)).symm
theorem cf_of {N : Nat} (ih : zay Tryz.prog (yw8 N std)) : zay Tryz.prog (cf_s N std) := by
 intro xs p r h hp
 unfold cf_s at h
 simp only at h
 split at h
 rotate_left
 · cases h
 rename_i x
 cases h
 obtain ⟨ho, hz⟩ := hp
 refine ywg ho ?_
 have hz : zst N (rdL x) := hz
 show zad _ _ _ (.bool (not (zdq (rdL x))))
 generalize rdL x = l at hz |-
 refine za8 (xs := fun L => [cvL L l, .fn 134 [] []]) (T := tt) (S := fun L => zam [yw8 N L]) (lo := noA) (lb := noA) 5 (fn := Tryz.f133) rfl rfl (by kernel_rfl) (by kernel_rfl) rfl zac (za2 ⟨ih, trivial⟩) (by kernel_rfl) ?_
 intro L P' Q' hL hP hQ
 (cbv; try simp only [syT, true_and, and_true])
 (subst hL; subst hQ; simp only [L2, L3, std] at *; try simp only [syS, reduceCtorEq, Int.reduceToNat, Int.reduceAdd, Int.reduceSub] at *)
 rw [rdl]
 refine ⟨⟨okl l, hz⟩, ?_⟩
 have := ypd l
 cases hb : zdq l with
 | true =>
   rw [hb] at this
   simp only [Bool.true_eq_false, eq_iff_iff, iff_false] at this
   have h : ile 0 (yk0 l) = false := by rw [yu4]; exact this
   rw [h]; rfl
 | false =>
   rw [hb] at this
   simp only [eq_iff_iff, iff_true] at this
   simpa [ile] using this
theorem ygn : ∀ N, zay Tryz.prog (zod N std) := by
 intro N
 induction N with
 | zero =>
   intro xs p r h hp
   unfold zod at h
   simp only at h
   split at h
   · rename_i k n s x
     cases h
     have h1 : sizeC (mkV std k n s x) <= 0 := hp.2.1
     have := zf1 (mkV std k n s x)
     omega
   · cases h
 | succ N ih =>
   intro xs p r h hp
   unfold zod at h
   simp only at h
   split at h
   rotate_left
   · cases h
   rename_i k n s x
   cases h
   obtain ⟨ho, hz⟩ := hp
   refine ywf ho ?_
   rw [show mkV std k n s x = .mk k n s (rdL x) from rfl] at hz |-
   generalize rdL x = l at hz |-
   have hz : zqj (N + 1) (.mk k n s l) := hz
   refine za8 (T := tt) (S := fun L => zam [cf_s N L]) (lo := noA) (lb := noA) 5 (fn := Tryz.f110) (xs := fun L => [.agg [.int .i64 k, .int .u64 n, .str s, cvL L l]]) rfl rfl (by kernel_rfl) (by kernel_rfl) rfl zac
     (za2 ⟨cf_of (yxy (b1_of ih)), trivial⟩) (by kernel_rfl) ?_
   intro L P' Q' hL hP hQ
   (cbv; try simp only [syT, true_and, and_true])
   (subst hL; subst hQ; simp only [L2, L3, std] at *; try simp only [syS, reduceCtorEq, Int.reduceToNat, Int.reduceAdd, Int.reduceSub] at *)
   simp only [rdl, yxn]
   rw [zcm] at hz
   rw [zg0]
   by_cases h1 : k = 1
   · simp [h1]
     exact ⟨fun a _ => a, fun a b => absurd b a⟩
   · by_cases h2 : k = 2
     · simp [h2]
       exact ⟨fun a _ => a, fun a b => absurd b a⟩
     · by_cases h3 : k = 3
       · simp [h3]
         refine ⟨fun h4 => ⟨fun h5 => ⟨⟨okl l, hz.1⟩, by simp [h4, h5]⟩, fun h5 => by simp [h5]⟩, fun h4 => by simp [h4]⟩
       · simp [h1, h2, h3]
end Sy
end Go.Proofs.YtogpolfhcbgcbaaGreatDoor
namespace Go.Proofs.YtogpolfhcbgcbaaGreatDoor
namespace Sy
open Go Go.RowKit
set_option maxRecDepth 100000
set_option linter.unusedSimpArgs false
set_option linter.unusedVariables false
end Sy
end Go.Proofs.YtogpolfhcbgcbaaGreatDoor
namespace Go.Proofs.YtogpolfhcbgcbaaGreatDoor
namespace Sy
open Go Go.RowKit
set_option maxRecDepth 100000
set_option linter.unusedSimpArgs false
set_option linter.unusedVariables false
theorem zna : ∀ (k n : Nat), n < 128 ^ (k + 1) -> (zdo n).length <= k + 1
 | 0, n, h => by rw [zbg (by omega)]; simp
 | k + 1, n, h => by
   by_cases h1 : n < 128
   · rw [zbg h1]; simp
   · rw [zgy (by omega), List.length_cons]
     have := zna k (n / 128) (by rw [Nat.div_lt_iff_lt_mul (by omega)]; rw [Nat.pow_succ] at h; exact h)
     omega
theorem zjf {n : Int} (h : zcy n) : (zb8 n).length <= 10 := zna 9 n.toNat (by
 have := h.2
 have := h.1
 rw [show (128 : Nat) ^ (9 + 1) = 1180591620717411303424 from by decide]
 omega)
def cb (s : List UInt8) (i : Nat) : Nat := (s.getD i 0).toNat
def lng (s : List UInt8) : Nat -> Nat -> Nat -> Nat × Nat × Nat
 | 0, _, _ => (0, 0, 4)
 | f + 1, i, n =>
   if s.length <= i then (0, 0, 3)
   else if i = 9 /\ 1 < cb s i then (0, 0, 4)
   else if 128 <= cb s i then lng s f (i + 1) (n + cb s i % 128 * 2 ^ (7 * i))
   else if 0 < cb s i \/ i = 0 then (n + cb s i % 128 * 2 ^ (7 * i), i + 1, 0)
   else (0, 0, 4)
def yow (s : List UInt8) : Int := (lng s 10 0 0).1
def yxl (s : List UInt8) : Int := (lng s 10 0 0).2.1
def yw6 (s : List UInt8) : Int := (lng s 10 0 0).2.2
theorem yvc (p : List UInt8) (c : UInt8) (r : List UInt8) : cb (p ++ c :: r) p.length = c.toNat := by
 unfold cb
 rw [List.getD_eq_getElem?_getD, List.getElem?_append_right (Nat.le_refl _), Nat.sub_self]
 rfl
theorem zra (r : List UInt8) : ∀ (f m n0 : Nat) (p : List UInt8), f + p.length = 10 -> m * 2 ^ (7 * p.length) < 2 ^ 64 -> (0 < m \/ p.length = 0) ->
   lng (p ++ (zdo m ++ r)) f p.length n0 = (n0 + m * 2 ^ (7 * p.length), p.length + (zdo m).length, 0)
 | 0, m, n0, p, hf, hm, h0 => by
   have : p.length = 10 := by omega
   rw [this] at hm h0
   have : 2 ^ (7 * 10) <= m * 2 ^ (7 * 10) := Nat.le_mul_of_pos_left _ (by omega)
   omega
 | f + 1, m, n0, p, hf, hm, h0 => by
   by_cases hb : 128 <= m
   · rw [zgy hb]
     have hc : cb (p ++ (UInt8.ofNat (m % 128 + 128) :: zdo (m / 128) ++ r)) p.length = m % 128 + 128 := by
       rw [List.cons_append, yvc]
       simp; omega
     have h9 : p.length ≠ 9 := by
       intro h
       rw [h] at hm
       have : 128 * 2 ^ (7 * 9) <= m * 2 ^ (7 * 9) := Nat.mul_le_mul_right _ hb
       omega
     rw [lng, if_neg (by simp), hc, if_neg (by omega), if_pos (by omega)]
     have e : p ++ (UInt8.ofNat (m % 128 + 128) :: zdo (m / 128) ++ r) = (p ++ [UInt8.ofNat (m % 128 + 128)]) ++ (zdo (m / 128) ++ r) := by simp
     have hl : (p ++ [UInt8.ofNat (m % 128 + 128)]).length = p.length + 1 := by simp
     have hp : 2 ^ (7 * (p.length + 1)) = 128 * 2 ^ (7 * p.length) := by rw [show 7 * (p.length + 1) = 7 + 7 * p.length by omega, Nat.pow_add]
     have hd : m / 128 * (128 * 2 ^ (7 * p.length)) + m % 128 * 2 ^ (7 * p.length) = m * 2 ^ (7 * p.length) := by
       rw [<- Nat.mul_assoc, <- Nat.add_mul]
       congr 1; omega
     have ih := zra r f (m / 128) (n0 + (m % 128 + 128) % 128 * 2 ^ (7 * p.length)) (p ++ [UInt8.ofNat (m % 128 + 128)]) (by rw [hl]; omega) (by rw [hl, hp]; omega) (.inl (by omega))
     rw [hl] at ih
     rw [e, ih, hp, List.length_cons, show (m % 128 + 128) % 128 = m % 128 by omega]
     refine Prod.ext ?_ (Prod.ext ?_ rfl)
     · show n0 + m % 128 * 2 ^ (7 * p.length) + m / 128 * (128 * 2 ^ (7 * p.length)) = n0 + m * 2 ^ (7 * p.length)
       omega
     · show p.length + 1 + _ = p.length + (_ + 1)
       omega
   · rw [zbg (by omega)]
     have hc : cb (p ++ ([UInt8.ofNat m] ++ r)) p.length = m := by
       rw [List.singleton_append, yvc]
       simp; omega
     have h9 : ¬ (p.length = 9 /\ 1 < m) := by
       rintro ⟨h, h1⟩
       rw [h] at hm
       have : 2 * 2 ^ (7 * 9) <= m * 2 ^ (7 * 9) := Nat.mul_le_mul_right _ h1
       omega
     rw [lng, if_neg (by simp), hc, if_neg h9, if_neg (by omega), if_pos h0, Nat.mod_eq_of_lt (by omega)]
     rfl
theorem ytt {m : Int} (h : zcy m) (r : List UInt8) : yow (zb8 m ++ r) = m /\ yxl (zb8 m ++ r) = ((zb8 m).length : Int) /\ yw6 (zb8 m ++ r) = 0 := by
 have h0 := h.1
 have h1 := h.2
 have := zra r 10 m.toNat 0 [] rfl (by simp; omega) (.inr rfl)
 simp only [List.nil_append, List.length_nil, Nat.zero_add, Nat.mul_zero, Nat.pow_zero, Nat.mul_one] at this
 unfold yow yxl yw6 zb8
 rw [this]
 refine ⟨?_, rfl, rfl⟩
 show ((m.toNat : Nat) : Int) = m
 omega
end Sy
end Go.Proofs.YtogpolfhcbgcbaaGreatDoor
namespace Go.Proofs.YtogpolfhcbgcbaaGreatDoor
namespace Sy
open Go Go.RowKit
set_option maxRecDepth 100000
set_option linter.unusedSimpArgs false
set_option linter.unusedVariables false
mutual
def wfV : CV -> Prop
 | .mk _ n s l => zcy n /\ s.length <= 9223372036854775807 /\ zv3 l
def zv3 : List CV -> Prop
 | [] => True
 | v :: l => wfV v /\ zv3 l
end
theorem ylj : ∀ {l : List CV} {i : Nat}, zv3 l -> i < l.length -> wfV (zdv l i)
 | [], i, _, h => by simp at h
 | v :: l, 0, w, _ => by rw [zv3] at w; exact w.1
 | v :: l, i + 1, w, h => by rw [zv3] at w; exact ylj (l := l) w.2 (by simpa using h)
theorem zjb (l : List CV) : ∀ i, (zhg l i).length <= (zb2 l).length := by
 intro i
 have := zjc (l.take i) (l.drop i)
 rw [List.take_append_drop] at this
 rw [this, List.length_append, zhg]; omega
theorem zar (k n : Int) (s : List UInt8) (l : List CV) : zby (.mk k n s l) = zgt k ++ if k = 1 then zb8 n else if k = 2 then zb8 s.length ++ s else zb8 l.length ++ zb2 l := by rw [zby]
def yb5 (v : CV) : Prop := wfV v /\ (zby v).length <= 90000000
theorem yaw {k n : Int} {s : List UInt8} {l : List CV} : yb5 (.mk k n s l) = ((zcy n /\ s.length <= 9223372036854775807 /\ zv3 l) /\ (zby (.mk k n s l)).length <= 90000000) := by
 unfold yb5; rw [wfV]
theorem zi2 {x : Int} (h : 0 <= x) (h1 : x < 18446744073709551616) : x % 18446744073709551616 = x := Int.emod_eq_of_lt h h1
theorem zj9 {k n : Int} {s : List UInt8} {l : List CV} (h : wfV (.mk k n s l)) : (s.length : Int) % 18446744073709551616 = s.length := by
 rw [wfV] at h
 exact zi2 (by omega) (by omega)
theorem zmg {N : Nat} {k n : Int} {s : List UInt8} {l : List CV} (h : zqj (N + 1) (.mk k n s l)) : zcy ((l.length : Nat) : Int) := by
 rw [zcm] at h
 have := znr l
 have h1 := h.1.1
 have h2 := h.1.2
 exact ⟨by omega, by omega⟩
theorem zja {N : Nat} {k n : Int} {s : List UInt8} {l : List CV} (h : zqj (N + 1) (.mk k n s l)) : ((lenL l : Nat) : Int) % 18446744073709551616 = ((l.length : Nat) : Int) := by
 have := zmg h
 exact zi2 this.1 this.2
theorem ylk {k n : Int} {s : List UInt8} {l : List CV} (h : yb5 (.mk k n s l)) (h1 : k ≠ 1) (h2 : k ≠ 2) {i : Nat} (hi : i < l.length) : yb5 (zdv l i) := by
 rw [yaw] at h
 refine ⟨ylj h.1.2.2 hi, ?_⟩
 have h3 := h.2
 have h4 := ze6 hi
 have h5 := zjb l (i + 1)
 rw [h4, List.length_append] at h5
 rw [zar, if_neg h1, if_neg h2] at h3
 simp only [List.length_append] at h3
 omega
def zoz (b : List UInt8) (k : Int) (l : List CV) (i : Nat) : List UInt8 := b ++ zgt k ++ zb8 l.length ++ zhg l i
def putA (L : zab) (b : List UInt8) (k : Int) (l : List CV) : Nat -> St -> Option Ann := fun id s => match id with
 | 1 => some ⟨Nat, fun i => [(23, .int .i64 (L za7 i))], fun i => [(500000, .box 137 [.ref 500000 0, .sl 901 1 0 (L lenN (L (L3 L zoz b k l) i))]), (901, .row 5 1 (L lenN (L (L3 L zoz b k l) i)) (fun j _ => .int .u8 (L2 L zae (L (L3 L zoz b k l) i) j)))], [0, 21, 22], [],
     fun i => L2 L (fun (l : List CV) i => i <= l.length) l i, fun i => L2 L (fun (l : List CV) (i : Nat) => l.length - i) l i⟩
 | _ => none
def zqx (N : Nat) (L : zab) : zog := (112, fun raw ob => match raw with
 | [.ref id 0, .agg [.int .i64 k, .int .u64 n, .str s, x]] => match ygl L ob id with
   | some none => some ⟨[.ref 500000 0, .agg [.int .i64 k, .int .u64 n, .str s, x]], ys5, L okL x /\ L2 L zqj N (mkV L k n s x) /\ L yb5 (mkV L k n s x), .tup [], zuv L (L zby (mkV L k n s x))⟩
   | some (some l) => some ⟨[.ref 500000 0, .agg [.int .i64 k, .int .u64 n, .str s, x]], bld L l, L okL x /\ L2 L zqj N (mkV L k n s x) /\ L yb5 (mkV L k n s x) /\ L2 L zfl l (L zby (mkV L k n s x)), .tup [], zuv L (L2 L zai l (L zby (mkV L k n s x)))⟩
   | none => none
 | _ => none)
theorem ysv {b : List UInt8} {k n : Int} {s : List UInt8} {l : List CV} (h : zfl b (zby (.mk k n s l))) : zfl b (zce (k % 256)) := by
 rw [zar] at h
 unfold zfl at h |-
 have : (zgt k).length = 1 := rfl
 have : (zce (k % 256)).length = 1 := rfl
 rw [List.length_append] at h
 omega
theorem zve {b q : List UInt8} {k : Int} (h : zfl b (zgt k ++ q)) : zfl (zai b (zce (k % 256))) q := by
 unfold zfl zai at *
 have : (zgt k).length = 1 := rfl
 have : (zce (k % 256)).length = 1 := rfl
 rw [List.length_append] at h |-
 omega
theorem ylt {b q r : List UInt8} {k : Int} (h : zfl b (zgt k ++ (q ++ r))) : zfl (zai b (zce (k % 256))) q := by
 unfold zfl zai at *
 have : (zgt k).length = 1 := rfl
 have : (zce (k % 256)).length = 1 := rfl
 rw [List.length_append, List.length_append] at h
 rw [List.length_append]
 omega
theorem zva {x y : List UInt8} (h : x = y) : (lenN x = lenN y /\ ∀ i j : Nat, i < lenN y -> j < 1 -> AV.int .u8 (zae x i) = AV.int .u8 (zae y i)) /\ lenN x = lenN y := by
 subst h; exact ⟨⟨rfl, fun _ _ _ _ => rfl⟩, rfl⟩
theorem ylo {b q t : List UInt8} {k : Int} (h : t = zgt k ++ q) : (lenN (zai (zai b (zce (k % 256))) q) = lenN (zai b t) /\ ∀ i j : Nat, i < lenN (zai b t) -> j < 1 -> AV.int .u8 (zae (zai (zai b (zce (k % 256))) q) i) = AV.int .u8 (zae (zai b t) i)) /\ lenN (zai (zai b (zce (k % 256))) q) = lenN (zai b t) :=
 zva (by rw [h]; unfold zai; rw [List.append_assoc]; rfl)
theorem ylp {q t : List UInt8} {k : Int} (h : t = zgt k ++ q) : (lenN (zai (zce (k % 256)) q) = lenN t /\ ∀ i j : Nat, i < lenN t -> j < 1 -> AV.int .u8 (zae (zai (zce (k % 256)) q) i) = AV.int .u8 (zae t i)) /\ lenN (zai (zce (k % 256)) q) = lenN t :=
 zva (by rw [h]; rfl)
theorem yo7 {N : Nat} (ih : zg9 Tryz.prog (zqx N std)) (b : List UInt8) (k n : Int) (s : List UInt8) (l : List CV) (hz : zqj (N + 1) (.mk k n s l)) (hw : yb5 (.mk k n s l)) (hb : zfl b (zby (.mk k n s l))) :
   zbj Tryz.prog 112 [.ref 500000 0, .agg [.int .i64 k, .int .u64 n, .str s, cvL std l]] (bld std b) (.tup []) (zuv std (zai b (zby (.mk k n s l)))) := by
 refine zbc (T := tt) (S := fun L => zca [zla L] [yvt L, yvs L, zqx N L]) (lo := fun L => putA L b k l) (lb := noA) 5 (fn := Tryz.f112) (xs := fun L => [.ref 500000 0, .agg [.int .i64 k, .int .u64 n, .str s, cvL L l]]) (rts := fun _ => []) (O := fun L => bld L b) (O1 := fun L => zuv L (L2 L zai b (L zby (.mk k n s l))))
   rfl rfl (by kernel_rfl) (by kernel_rfl) (by kernel_rfl) zac (zaw ⟨zje, trivial⟩ ⟨yax, yar, ih, trivial⟩) (by kernel_rfl) ?_
 intro L P' Q' hL hP hQ
 have hB : ∀ b : List UInt8, L (L zbf (L lenN b)) (fun i => (AV.int .u8 (L2 L zae b i)).toI) = b := by subst hL; exact zh9
 (cbv; try simp only [syT, true_and, and_true])
 simp only [hB]
 refine ⟨⟨trivial, fun _ _ _ _ => trivial⟩, trivial, ⟨?_, ?_⟩, fun h1 => ⟨?_, ⟨trivial, fun _ _ _ _ => trivial⟩, trivial, ?_, ?_⟩, fun h1 => ⟨fun h2 => ⟨?_, ?_, ⟨trivial, fun _ _ _ _ => trivial⟩, trivial, ?_, ?_⟩, fun h2 => ⟨?_, ⟨trivial, fun _ _ _ _ => trivial⟩, trivial, ?_, ⟨0, ?_⟩, fun i hi => ?_⟩⟩⟩
 · (subst hL; subst hQ; simp only [L2, L3, std] at *; try simp only [syS, reduceCtorEq, Int.reduceToNat, Int.reduceAdd, Int.reduceSub] at *)
   exact ⟨Int.emod_nonneg _ (by omega), Int.emod_lt_of_pos _ (by omega)⟩
 · (subst hL; subst hQ; simp only [L2, L3, std] at *; try simp only [syS, reduceCtorEq, Int.reduceToNat, Int.reduceAdd, Int.reduceSub] at *)
   exact ysv hb
 · (subst hL; subst hQ; simp only [L2, L3, std] at *; try simp only [syS, reduceCtorEq, Int.reduceToNat, Int.reduceAdd, Int.reduceSub] at *)
   rw [yaw] at hw
   exact hw.1.1
 · (subst hL; subst hQ; simp only [L2, L3, std] at *; try simp only [syS, reduceCtorEq, Int.reduceToNat, Int.reduceAdd, Int.reduceSub] at *)
   rw [zar, if_pos h1] at hb
   exact zve hb
 · (subst hL; subst hQ; simp only [L2, L3, std] at *; try simp only [syS, reduceCtorEq, Int.reduceToNat, Int.reduceAdd, Int.reduceSub] at *)
   exact ylo (by rw [zar, if_pos h1])
 · (subst hL; subst hQ; simp only [L2, L3, std] at *; try simp only [syS, reduceCtorEq, Int.reduceToNat, Int.reduceAdd, Int.reduceSub] at *)
   rw [yaw] at hw
   rw [zi2 (by omega) (by omega)]
   exact ⟨by omega, by omega⟩
 · (subst hL; subst hQ; simp only [L2, L3, std] at *; try simp only [syS, reduceCtorEq, Int.reduceToNat, Int.reduceAdd, Int.reduceSub] at *)
   rw [zj9 hw.1]
   have h3 := hw.2
   rw [zar, if_neg h1, if_pos h2] at h3
   simp at h3 |-
   omega
 · (subst hL; subst hQ; simp only [L2, L3, std] at *; try simp only [syS, reduceCtorEq, Int.reduceToNat, Int.reduceAdd, Int.reduceSub] at *)
   rw [zj9 hw.1]
   rw [zar, if_neg h1, if_pos h2] at hb
   exact zve hb
 · (subst hL; subst hQ; simp only [L2, L3, std] at *; try simp only [syS, reduceCtorEq, Int.reduceToNat, Int.reduceAdd, Int.reduceSub] at *)
   rw [zj9 hw.1]
   exact ylo (by rw [zar, if_neg h1, if_pos h2])
 · (subst hL; subst hQ; simp only [L2, L3, std] at *; try simp only [syS, reduceCtorEq, Int.reduceToNat, Int.reduceAdd, Int.reduceSub] at *)
   rw [zja hz]
   exact zmg hz
 · (subst hL; subst hQ; simp only [L2, L3, std] at *; try simp only [syS, reduceCtorEq, Int.reduceToNat, Int.reduceAdd, Int.reduceSub] at *)
   rw [zja hz]
   rw [zar, if_neg h1, if_neg h2] at hb
   exact ylt hb
 · (cbv; try simp only [syT, true_and, and_true])
   (subst hL; subst hQ; simp only [L2, L3, std] at *; try simp only [syS, reduceCtorEq, Int.reduceToNat, Int.reduceAdd, Int.reduceSub] at *)
   rw [zja hz]
   have e : zai (zai b (zce (k % 256))) (zb8 ((l.length : Nat) : Int)) = zoz b k l 0 := by
     rw [zoz, zhg, List.take_zero, zb2, List.append_nil]; rfl
   rw [e]
   exact ⟨⟨rfl, fun _ _ _ _ => rfl⟩, rfl, Nat.zero_le _⟩
 · cbv at hi
   (cbv; try simp only [syT, true_and, and_true])
   simp only [hB]
   refine ⟨fun hlt => ⟨?_, ⟨trivial, fun _ _ _ _ => trivial⟩, trivial, fun _ _ _ _ => trivial, ⟨?_, ?_, ?_, ?_⟩, ⟨i + 1, ?_⟩⟩, fun hge => ?_⟩
   · (subst hL; subst hQ; simp only [L2, L3, std] at *; try simp only [syS, reduceCtorEq, Int.reduceToNat, Int.reduceAdd, Int.reduceSub] at *)
     omega
   · (subst hL; subst hQ; simp only [L2, L3, std] at *; try simp only [syS, reduceCtorEq, Int.reduceToNat, Int.reduceAdd, Int.reduceSub] at *)
     exact (zlh _).2
   · (subst hL; subst hQ; simp only [L2, L3, std] at *; try simp only [syS, reduceCtorEq, Int.reduceToNat, Int.reduceAdd, Int.reduceSub] at *)
     rw [zdw]
     rw [zcm] at hz
     exact zvz hz.1 (by have : lenL l = l.length := rfl; omega)
   · (subst hL; subst hQ; simp only [L2, L3, std] at *; try simp only [syS, reduceCtorEq, Int.reduceToNat, Int.reduceAdd, Int.reduceSub] at *)
     rw [zc4]
     exact ylk hw (by omega) (by omega) (by have : lenL l = l.length := rfl; omega)
   · (subst hL; subst hQ; simp only [L2, L3, std] at *; try simp only [syS, reduceCtorEq, Int.reduceToNat, Int.reduceAdd, Int.reduceSub] at *)
     rw [zc4]
     have h4 := ze6 (l := l) (i := i) (by have : lenL l = l.length := rfl; omega)
     have h5 := zjb l (i + 1)
     rw [h4, List.length_append] at h5
     rw [zar, if_neg h1, if_neg h2] at hb
     unfold zfl at hb |-
     simp only [List.length_append, zoz] at hb |-
     omega
   · (cbv; try simp only [syT, true_and, and_true])
     (subst hL; subst hQ; simp only [L2, L3, std] at *; try simp only [syS, reduceCtorEq, Int.reduceToNat, Int.reduceAdd, Int.reduceSub] at *)
     have : lenL l = l.length := rfl
     have := znr l
     rw [zcm] at hz
     have h4 := hz.1.1
     have h5 := hz.1.2
     rw [zc4]
     have e : zai (zoz b k l i) (zby (zdv l i)) = zoz b k l (i + 1) := by
       rw [zoz, zoz, ze6 (by omega)]; unfold zai; simp only [List.append_assoc]
     rw [e]
     exact ⟨⟨rfl, fun _ _ _ _ => rfl⟩, rfl, by omega, by omega, by omega⟩
   · (subst hL; subst hQ; simp only [L2, L3, std] at *; try simp only [syS, reduceCtorEq, Int.reduceToNat, Int.reduceAdd, Int.reduceSub] at *)
     have : lenL l = l.length := rfl
     have hil : i = l.length := by omega
     exact zva (by rw [zar, if_neg h1, if_neg h2, zoz, hil, zhg, List.take_length]; unfold zai; simp only [List.append_assoc])
theorem yo8 {N : Nat} (ih : zg9 Tryz.prog (zqx N std)) (k n : Int) (s : List UInt8) (l : List CV) (hz : zqj (N + 1) (.mk k n s l)) (hw : yb5 (.mk k n s l)) :
   zbj Tryz.prog 112 [.ref 500000 0, .agg [.int .i64 k, .int .u64 n, .str s, cvL std l]] ys5 (.tup []) (zuv std (zby (.mk k n s l))) := by
 refine zbc (T := tt) (S := fun L => zca [zla L] [yvt L, yvs L, zqx N L]) (lo := fun L => putA L [] k l) (lb := noA) 5 (fn := Tryz.f112) (xs := fun L => [.ref 500000 0, .agg [.int .i64 k, .int .u64 n, .str s, cvL L l]]) (rts := fun _ => []) (O := fun L => ys5) (O1 := fun L => zuv L (L zby (.mk k n s l)))
   rfl rfl (by kernel_rfl) (by kernel_rfl) (by kernel_rfl) zac (zaw ⟨zje, trivial⟩ ⟨yax, yar, ih, trivial⟩) (by kernel_rfl) ?_
 intro L P' Q' hL hP hQ
 have hb : zfl [] (zby (.mk k n s l)) := by have := hw.2; unfold zfl; simp; omega
 have hB : ∀ b : List UInt8, L (L zbf (L lenN b)) (fun i => (AV.int .u8 (L2 L zae b i)).toI) = b := by subst hL; exact zh9
 (cbv; try simp only [syT, true_and, and_true])
 simp only [hB]
 refine ⟨?_, fun h1 => ⟨?_, ⟨trivial, fun _ _ _ _ => trivial⟩, trivial, ?_, ?_⟩, fun h1 => ⟨fun h2 => ⟨?_, ?_, ⟨trivial, fun _ _ _ _ => trivial⟩, trivial, ?_, ?_⟩, fun h2 => ⟨?_, ⟨trivial, fun _ _ _ _ => trivial⟩, trivial, ?_, ⟨0, ?_⟩, fun i hi => ?_⟩⟩⟩
 · (subst hL; subst hQ; simp only [L2, L3, std] at *; try simp only [syS, reduceCtorEq, Int.reduceToNat, Int.reduceAdd, Int.reduceSub] at *)
   exact ⟨Int.emod_nonneg _ (by omega), Int.emod_lt_of_pos _ (by omega)⟩
 · (subst hL; subst hQ; simp only [L2, L3, std] at *; try simp only [syS, reduceCtorEq, Int.reduceToNat, Int.reduceAdd, Int.reduceSub] at *)
   rw [yaw] at hw
   exact hw.1.1
 · (subst hL; subst hQ; simp only [L2, L3, std] at *; try simp only [syS, reduceCtorEq, Int.reduceToNat, Int.reduceAdd, Int.reduceSub] at *)
   rw [zar, if_pos h1] at hb
   exact zve hb
 · (subst hL; subst hQ; simp only [L2, L3, std] at *; try simp only [syS, reduceCtorEq, Int.reduceToNat, Int.reduceAdd, Int.reduceSub] at *)
   exact ylp (by rw [zar, if_pos h1])
 · (subst hL; subst hQ; simp only [L2, L3, std] at *; try simp only [syS, reduceCtorEq, Int.reduceToNat, Int.reduceAdd, Int.reduceSub] at *)
   rw [yaw] at hw
   rw [zi2 (by omega) (by omega)]
   exact ⟨by omega, by omega⟩
 · (subst hL; subst hQ; simp only [L2, L3, std] at *; try simp only [syS, reduceCtorEq, Int.reduceToNat, Int.reduceAdd, Int.reduceSub] at *)
   rw [zj9 hw.1]
   have h3 := hw.2
   rw [zar, if_neg h1, if_pos h2] at h3
   simp at h3 |-
   omega
 · (subst hL; subst hQ; simp only [L2, L3, std] at *; try simp only [syS, reduceCtorEq, Int.reduceToNat, Int.reduceAdd, Int.reduceSub] at *)
   rw [zj9 hw.1]
   rw [zar, if_neg h1, if_pos h2] at hb
   exact zve hb
 · (subst hL; subst hQ; simp only [L2, L3, std] at *; try simp only [syS, reduceCtorEq, Int.reduceToNat, Int.reduceAdd, Int.reduceSub] at *)
   rw [zj9 hw.1]
   exact ylp (by rw [zar, if_neg h1, if_pos h2])
 · (subst hL; subst hQ; simp only [L2, L3, std] at *; try simp only [syS, reduceCtorEq, Int.reduceToNat, Int.reduceAdd, Int.reduceSub] at *)
   rw [zja hz]
   exact zmg hz
 · (subst hL; subst hQ; simp only [L2, L3, std] at *; try simp only [syS, reduceCtorEq, Int.reduceToNat, Int.reduceAdd, Int.reduceSub] at *)
   rw [zja hz]
   rw [zar, if_neg h1, if_neg h2] at hb
   exact ylt hb
 · (cbv; try simp only [syT, true_and, and_true])
   (subst hL; subst hQ; simp only [L2, L3, std] at *; try simp only [syS, reduceCtorEq, Int.reduceToNat, Int.reduceAdd, Int.reduceSub] at *)
   rw [zja hz]
   have e : zai (zce (k % 256)) (zb8 ((l.length : Nat) : Int)) = zoz [] k l 0 := by
     rw [zoz, zhg, List.take_zero, zb2, List.append_nil]; rfl
   rw [e]
   exact ⟨⟨rfl, fun _ _ _ _ => rfl⟩, rfl, Nat.zero_le _⟩
 · cbv at hi
   (cbv; try simp only [syT, true_and, and_true])
   simp only [hB]
   refine ⟨fun hlt => ⟨?_, ⟨trivial, fun _ _ _ _ => trivial⟩, trivial, fun _ _ _ _ => trivial, ⟨?_, ?_, ?_, ?_⟩, ⟨i + 1, ?_⟩⟩, fun hge => ?_⟩
   · (subst hL; subst hQ; simp only [L2, L3, std] at *; try simp only [syS, reduceCtorEq, Int.reduceToNat, Int.reduceAdd, Int.reduceSub] at *)
     omega
   · (subst hL; subst hQ; simp only [L2, L3, std] at *; try simp only [syS, reduceCtorEq, Int.reduceToNat, Int.reduceAdd, Int.reduceSub] at *)
     exact (zlh _).2
   · (subst hL; subst hQ; simp only [L2, L3, std] at *; try simp only [syS, reduceCtorEq, Int.reduceToNat, Int.reduceAdd, Int.reduceSub] at *)
     rw [zdw]
     rw [zcm] at hz
     exact zvz hz.1 (by have : lenL l = l.length := rfl; omega)
   · (subst hL; subst hQ; simp only [L2, L3, std] at *; try simp only [syS, reduceCtorEq, Int.reduceToNat, Int.reduceAdd, Int.reduceSub] at *)
     rw [zc4]
     exact ylk hw (by omega) (by omega) (by have : lenL l = l.length := rfl; omega)
   · (subst hL; subst hQ; simp only [L2, L3, std] at *; try simp only [syS, reduceCtorEq, Int.reduceToNat, Int.reduceAdd, Int.reduceSub] at *)
     rw [zc4]
     have h4 := ze6 (l := l) (i := i) (by have : lenL l = l.length := rfl; omega)
     have h5 := zjb l (i + 1)
     rw [h4, List.length_append] at h5
     rw [zar, if_neg h1, if_neg h2] at hb
     unfold zfl at hb |-
     simp only [List.length_append, zoz] at hb |-
     omega
   · (cbv; try simp only [syT, true_and, and_true])
     (subst hL; subst hQ; simp only [L2, L3, std] at *; try simp only [syS, reduceCtorEq, Int.reduceToNat, Int.reduceAdd, Int.reduceSub] at *)
     have : lenL l = l.length := rfl
     have := znr l
     rw [zcm] at hz
     have h4 := hz.1.1
     have h5 := hz.1.2
     rw [zc4]
     have e : zai (zoz [] k l i) (zby (zdv l i)) = zoz [] k l (i + 1) := by
       rw [zoz, zoz, ze6 (by omega)]; unfold zai; simp only [List.append_assoc]
     rw [e]
     exact ⟨⟨rfl, fun _ _ _ _ => rfl⟩, rfl, by omega, by omega, by omega⟩
   · (subst hL; subst hQ; simp only [L2, L3, std] at *; try simp only [syS, reduceCtorEq, Int.reduceToNat, Int.reduceAdd, Int.reduceSub] at *)
     have : lenL l = l.length := rfl
     have hil : i = l.length := by omega
     exact zva (by rw [zar, if_neg h1, if_neg h2, zoz, hil, zhg, List.take_length, List.nil_append, List.append_assoc])
theorem ydy {P : Program} {f : FuncId} {xs ys : List AV} {O O1 : List (Nat × Ob)} {r : AV} (e : ∀ h D μ vs, RL h D μ xs vs -> RL h D μ ys vs) (hm : zbj P f ys O r O1) : zbj P f xs O r O1 :=
 fun D w μ vs hD hx => hm D w μ vs hD (e _ _ _ _ hx)
theorem yfs : ∀ N, zg9 Tryz.prog (zqx N std) := by
 intro N
 induction N with
 | zero =>
   intro raw ob T hT hp
   unfold zqx at hT
   simp only at hT
   split at hT
   · rename_i k n s x
     split at hT <;> cases hT
     · have h1 : sizeC (mkV std k n s x) <= 0 := hp.2.1.1
       have := zf1 (mkV std k n s x)
       omega
     · have h1 : sizeC (mkV std k n s x) <= 0 := hp.2.1.1
       have := zf1 (mkV std k n s x)
       omega
   · cases hT
 | succ N ih =>
   intro raw ob T hT hp
   unfold zqx at hT
   simp only at hT
   split at hT
   rotate_left
   · cases hT
   rename_i k n s x
   split at hT <;> cases hT
   · refine ydy (fun h D μ vs hr => rl_2 (fun v => yn1 hp.1) hr) ?_
     exact yo8 ih k n s (rdL x) hp.2.1 hp.2.2
   · refine ydy (fun h D μ vs hr => rl_2 (fun v => yn1 hp.1) hr) ?_
     exact yo7 ih _ k n s (rdL x) hp.2.1 hp.2.2.1 hp.2.2.2
end Sy
end Go.Proofs.YtogpolfhcbgcbaaGreatDoor
namespace Go.Proofs.YtogpolfhcbgcbaaGreatDoor
namespace Sy
open Go Go.RowKit
set_option maxRecDepth 100000
set_option linter.unusedSimpArgs false
set_option linter.unusedVariables false
theorem zv1 {P : Program} {f : FuncId} {sz n : Nat} {get : Nat -> Nat -> AV} {r : AV} (h0 : n = 0 -> zad P f [.nils] r) (h1 : n = 0 -> zad P f [.emp] r) (h2 : 0 < n -> zad P f [.lst sz n get] r) : zad P f [.lst sz n get] r := by
 by_cases e : n = 0
 · subst e
   intro D w vs hD hx
   obtain ⟨v, hv⟩ : ∃ v, vs.toList = [v] := List.length_eq_one_iff.1 (by simpa using hx.1.symm)
   have : vs = #[v] := by rw [<- Array.toArray_toList (xs := vs), hv]
   subst this
   have hr := hx.2 0 _ _ rfl rfl
   have one : ∀ y, R w.heap D zav y v -> RL w.heap D zav [y] #[v] := fun y r => ⟨rfl, fun i x u hx hu => by
     match i with
     | 0 => cases hx; cases hu; exact r
     | i + 1 => simp at hx⟩
   cases hr with
   | lst0 _ _ a cap hn =>
     cases a with
     | none =>
       obtain rfl := hn rfl
       exact h0 rfl D w _ hD (one _ .nils)
     | some a => exact h1 rfl D w _ hD (one _ (.emp a cap))
   | lst _ _ _ b o cap vs' hD' hc hv' h1' hr' => exact h1 rfl D w _ hD (one _ (.emp _ cap))
 · exact h2 (by omega)
def zhd (n : Int) : CV := .mk 1 n [] []
def zkh (s : List UInt8) : CV := .mk 2 0 s []
def ze0 (l : List CV) : CV := .mk 3 0 [] l
def zyy (L : zab) : zbb := (85, fun xs => match xs with | [.int .u64 n] => some (True, cvA L (L zhd n)) | _ => none)
def zxq (L : zab) : zbb := (116, fun xs => match xs with | [.str s] => some (True, cvA L (L zkh s)) | _ => none)
theorem zkk : zay Tryz.prog (zyy std) := by
 intro xs p r h hp
 unfold zyy at h
 simp only at h
 split at h
 rotate_left
 · cases h
 rename_i n
 cases h
 refine zaa (T := tt) (S := noS) (lo := noA) (lb := noA) 5 (fn := Tryz.f85) rfl rfl (by kernel_rfl) (by kernel_rfl) rfl zac (zc2 _) (by kernel_rfl) ?_
 (intro L P1 Q1 hL hP hQ; cbv; subst hL; simp only [L2, L3, std, syT]; subst hQ)
 show zg4 (.agg [.int .i64 1, .int .u64 n, .str [], .lst 4 0 (zku (zhd n))]) _
 simp [zgq, zdf, ze2, zjv, ze3]
theorem zkg : zay Tryz.prog (zxq std) := by
 intro xs p r h hp
 unfold zxq at h
 simp only at h
 split at h
 rotate_left
 · cases h
 rename_i n
 cases h
 refine zaa (T := tt) (S := noS) (lo := noA) (lb := noA) 5 (fn := Tryz.f116) rfl rfl (by kernel_rfl) (by kernel_rfl) rfl zac (zc2 _) (by kernel_rfl) ?_
 (intro L P1 Q1 hL hP hQ; cbv; subst hL; simp only [L2, L3, std, syT]; subst hQ)
 show zg4 (.agg [.int .i64 2, .int .u64 0, .str n, .lst 4 0 (zku (zkh n))]) _
 simp [zgq, zdf, ze2, zjv, ze3]
def ye6 (l : List CV) : Prop := l.length <= 1000000
def zum (L : zab) : zbb := (115, fun xs => match xs with
 | [x] => some (L okL x /\ L ye6 (L rdL x), .lst 4 (L lenL (L rdL x)) (L zj0 (L rdL x)))
 | _ => none)
theorem zzy : zay Tryz.prog (zum std) := by
 intro xs p r h hp
 unfold zum at h
 simp only at h
 split at h
 rotate_left
 · cases h
 rename_i x
 cases h
 obtain ⟨ho, hz⟩ := hp
 refine ywg ho ?_
 have hz : ye6 (rdL x) := hz
 show zad _ _ [cvL std (rdL x)] (.lst 4 (lenL (rdL x)) (zj0 (rdL x)))
 generalize rdL x = l at hz |-
 refine zv1 (fun h => ?_) (fun h => ?_) (fun h => ?_)
 · refine zaa (T := tt) (S := noS) (lo := noA) (lb := noA) 5 (fn := Tryz.f115) rfl rfl (by kernel_rfl) (by kernel_rfl) rfl zac (zc2 _) (by kernel_rfl) ?_
   intro L P' Q' hL hP hQ
   (cbv; try simp only [syT, true_and, and_true])
   (subst hL; subst hQ; simp only [L2, L3, std] at *; try simp only [syS, reduceCtorEq, Int.reduceToNat, Int.reduceAdd, Int.reduceSub] at *)
   exact h.symm
 · refine zaa (T := tt) (S := noS) (lo := noA) (lb := noA) 5 (fn := Tryz.f115) rfl rfl (by kernel_rfl) (by kernel_rfl) rfl zac (zc2 _) (by kernel_rfl) ?_
   intro L P' Q' hL hP hQ
   (cbv; try simp only [syT, true_and, and_true])
   (subst hL; subst hQ; simp only [L2, L3, std] at *; try simp only [syS, reduceCtorEq, Int.reduceToNat, Int.reduceAdd, Int.reduceSub] at *)
   exact ⟨by omega, h.symm, fun i j hi => by omega⟩
 · refine za8 (T := tt) (S := noS) (lo := fun _ => noA std) (lb := noA) 5 (fn := Tryz.f115) (xs := fun L => [cvL L l]) rfl rfl (by kernel_rfl) (by kernel_rfl) rfl zac (zc2 _) (by kernel_rfl) ?_
   intro L P' Q' hL hP hQ
   (cbv; try simp only [syT, true_and, and_true])
   (subst hL; subst hQ; simp only [L2, L3, std] at *; try simp only [syS, reduceCtorEq, Int.reduceToNat, Int.reduceAdd, Int.reduceSub] at *)
   have h1 : lenL l <= 1000000 := hz
   exact ⟨zhw h, by omega, fun i j hi hj => by rw [zul _ _ hj, zbv _ _ _ hi]⟩
def zg2 (L : zab) : zbb := (84, fun xs => match xs with
 | [x] => some (L okL x /\ L ye6 (L rdL x), cvA L (L ze0 (L rdL x)))
 | _ => none)
theorem zch : zay Tryz.prog (zg2 std) := by
 intro xs p r h hp
 unfold zg2 at h
 simp only at h
 split at h
 rotate_left
 · cases h
 rename_i x
 cases h
 obtain ⟨ho, hz⟩ := hp
 refine ywg ho ?_
 have hz : ye6 (rdL x) := hz
 show zad _ _ [cvL std (rdL x)] (cvA std (ze0 (rdL x)))
 generalize rdL x = l at hz |-
 refine za8 (T := tt) (S := fun L => zam [zum L]) (lo := fun _ => noA std) (lb := noA) 5 (fn := Tryz.f84) (xs := fun L => [cvL L l]) rfl rfl (by kernel_rfl) (by kernel_rfl) rfl zac (za2 ⟨zzy, trivial⟩) (by kernel_rfl) ?_
 intro L P' Q' hL hP hQ
 (cbv; try simp only [syT, true_and, and_true])
 (subst hL; subst hQ; simp only [L2, L3, std] at *; try simp only [syS, reduceCtorEq, Int.reduceToNat, Int.reduceAdd, Int.reduceSub] at *)
 rw [rdl]
 refine ⟨⟨okl l, hz⟩, ?_⟩
 show zg4 (.agg [.int .i64 3, .int .u64 0, .str [], .lst 4 (lenL l) (zj0 l)]) _
 simp [zgq, zdf, ze2, zfa, ze3]
def ztb (v : CV) : Int := if zg0 v = true then (if zdn v > 6 then 8 else if (zby v).length > 8192 then 5 else 0) else 10
def zyo (v : CV) : List UInt8 := if ztb v = 0 then zby v else []
def zxb (N : Nat) (L : zab) : zbb := (83, fun xs => match xs with
 | [.agg [.int .i64 k, .int .u64 n, .str s, x]] => some (L okL x /\ L2 L zqj N (mkV L k n s x) /\ L yb5 (mkV L k n s x), .tup [.str (L zyo (mkV L k n s x)), .int .i64 (L ztb (mkV L k n s x))])
 | _ => none)
theorem zo8 (N : Nat) : zay Tryz.prog (zxb N std) := by
 intro xs p r h hp
 unfold zxb at h
 simp only at h
 split at h
 rotate_left
 · cases h
 rename_i k n s x
 cases h
 obtain ⟨ho, hz, hw⟩ := hp
 refine ywf ho ?_
 rw [show mkV std k n s x = .mk k n s (rdL x) from rfl] at hz hw |-
 generalize rdL x = l at hz hw |-
 have hz : zqj N (.mk k n s l) := hz
 have hw : yb5 (.mk k n s l) := hw
 refine za8 (T := tt) (S := fun L => zca [zod N L, zs2 N L] [zqx N L, bl_m L, bs_m L]) (lo := fun _ => noA std) (lb := noA) 5 (fn := Tryz.f83) (xs := fun L => [.agg [.int .i64 k, .int .u64 n, .str s, cvL L l]]) rfl rfl (by kernel_rfl) (by kernel_rfl) rfl zac
   (zaw ⟨ygn N, yfj N, trivial⟩ ⟨yfs N, yrc, yra, trivial⟩) (by kernel_rfl) ?_
 intro L P' Q' hL hP hQ
 have hB : ∀ b : List UInt8, L (L zbf (L lenN b)) (fun i => (AV.int .u8 (L2 L zae b i)).toI) = b := by subst hL; exact zh9
 (cbv; try simp only [syT, true_and, and_true])
 simp only [hB]
 (subst hL; subst hQ; simp only [L2, L3, std] at *; try simp only [syS, reduceCtorEq, Int.reduceToNat, Int.reduceAdd, Int.reduceSub] at *)
 simp only [rdl, mkl]
 refine ⟨⟨okl l, hz⟩, fun h1 => ?_, fun h1 => ⟨⟨okl l, hz⟩, fun h2 => ?_, fun h2 => ⟨⟨okl l, hz, hw⟩, fun h3 => ?_, fun h3 => ⟨⟨?_, hw.2⟩, ?_⟩⟩⟩⟩
 · simp [zyo, ztb, h1]
 · simp [zyo, ztb, h1, h2]
 · have h4 : ¬ 6 < zdn (.mk k n s l) := by omega
   have h5 : 8192 < (zby (.mk k n s l)).length := by omega
   simp [zyo, ztb, h1, h4, h5]
 · rw [zar]; simp [zgt]
 · have h4 : ¬ 6 < zdn (.mk k n s l) := by omega
   have h5 : ¬ 8192 < (zby (.mk k n s l)).length := by omega
   simp [zyo, ztb, h1, h4, h5]
theorem one1 (v : CV) : rdL (.lst 4 1 fun i j => zbn .dead [.int .i64 v.kd, .int .u64 v.nn, .str v.tx, .lst 4 (zmr v) (zku v)] (i * 4 + j)) = [v] := by
 show [CV.mk v.kd v.nn v.tx (rdL (.lst 4 (zmr v) (zku v)))] = [v]
 rw [zdw]
theorem yoj (v : CV) : okL (.lst 4 1 fun i j => zbn .dead [.int .i64 v.kd, .int .u64 v.nn, .str v.tx, .lst 4 (zmr v) (zku v)] (i * 4 + j)) := by
 refine ⟨rfl, fun i hi => ?_⟩
 have : i = 0 := by omega
 subst this
 exact ⟨⟨_, rfl⟩, ⟨_, rfl⟩, ⟨_, rfl⟩, (zlh v).2⟩
theorem ybo : zb8 1 = [1] := by rw [zb8, show (1 : Int).toNat = 1 from rfl, zbg (by decide)]; rfl
theorem ysp : zb8 5 = [5] := by rw [zb8, show (5 : Int).toNat = 5 from rfl, zbg (by decide)]; rfl
theorem zub : zby (ze0 [zhd 5]) = [3, 1, 1, 5] := by
 rw [ze0, zhd, zar, if_neg (by decide), if_neg (by decide), zb2, zar, if_pos rfl, zb2, ysp]
 show _ ++ (zb8 1 ++ _) = _
 rw [ybo]; rfl
theorem yq9 : zg0 (ze0 [zhd 5]) = true := by rw [ze0, zhd, zg0, zdq, zg0, zdq]; rfl
theorem yq8 : zdn (ze0 [zhd 5]) = 1 := by rw [ze0, zhd, zdn, zb4, zdn, zb4]; rfl
theorem yq6 : sizeC (ze0 [zhd 5]) = 2 := by rw [ze0, zhd, zcx, zbp, zcs, zcx, zcs]
theorem yfe : ztb (ze0 [zhd 5]) = 0 := by rw [ztb, yq9, yq8, zub]; rfl
theorem yq7 : zyo (ze0 [zhd 5]) = [3, 1, 1, 5] := by rw [zyo, yfe, zub]; rfl
theorem ex_tx : yb5 (ze0 [zhd 5]) := by
 refine ⟨?_, by rw [zub]; decide⟩
 simp only [ze0, zhd, wfV, zv3, zcy]
 decide
theorem ya5 : zad Tryz.prog 91 [] (.bool true) := by
 refine zaa (T := tt) (S := fun L => zam [zyy L, zg2 L, zxb 100 L, tru 123]) (lo := noA) (lb := noA) 5 (fn := Tryz.f91) rfl rfl (by kernel_rfl) (by kernel_rfl) rfl zac (za2 ⟨zkk, zch, zo8 100, zbz zoi, trivial⟩) (by kernel_rfl) ?_
 intro L P' Q' hL hP hQ
 (cbv; try simp only [syT, true_and, and_true])
 (subst hL; subst hQ; simp only [L2, L3, std] at *; try simp only [syS, reduceCtorEq, Int.reduceToNat, Int.reduceAdd, Int.reduceSub] at *)
 simp only [one1, zdw, zc4, yfe, yq7]
 exact ⟨⟨yoj _, by show (1 : Nat) <= 1000000; omega⟩, ⟨(zlh _).2, ⟨by rw [yq6]; omega, by omega⟩, ex_tx⟩, fun _ => trivial, trivial⟩
theorem yag : zad Tryz.prog 67 [] (.bool true) := by
 refine zaa (T := tt) (S := fun L => zam [tru 91]) (lo := noA) (lb := noA) 5 (fn := Tryz.f67) rfl rfl (by kernel_rfl) (by kernel_rfl) rfl zac (za2 ⟨zbz ya5, trivial⟩) (by kernel_rfl) ?_
 (intro L P1 Q1 hL hP hQ; cbv; subst hL; simp only [L2, L3, std, syT]; subst hQ)
 (simp only [syS, reduceCtorEq, Int.reduceToNat, Int.reduceAdd, Int.reduceSub])
theorem zq1 (g : Nat -> CV) {i q j : Nat} (hq : q < i + 1) (hj : j < 4) :
   zhc std (zbk q i) (cv1 std (g q) j) (zbn .dead [.int .i64 (g i).kd, .int .u64 (g i).nn, .str (g i).tx, .lst 4 (zmr (g i)) (zku (g i))] ((q - i) * 4 + j)) = cv1 std (g q) j := by
 by_cases h : q < i
 · rw [zhw h, show q - i = 0 by omega, Nat.zero_mul, Nat.zero_add]
   match j, hj with
   | 0, _ => rfl
   | 1, _ => rfl
   | 2, _ => rfl
   | 3, _ => rfl
 · have : q = i := by omega
   subst this
   rw [zjy (by omega), show q - q = 0 by omega, Nat.zero_mul, Nat.zero_add]
   match j, hj with
   | 0, _ => rfl
   | 1, _ => rfl
   | 2, _ => rfl
   | 3, _ => rfl
end Sy
end Go.Proofs.YtogpolfhcbgcbaaGreatDoor
namespace Go.Proofs.YtogpolfhcbgcbaaGreatDoor
namespace Sy
open Go Go.RowKit
set_option maxRecDepth 100000
set_option linter.unusedSimpArgs false
set_option linter.unusedVariables false
structure Nd where
 k : Int
 n : Int
 s : List UInt8
 b : List UInt8
def yw2 (l : List Nd) (i : Nat) : Nd := l.getD i ⟨0, 0, [], []⟩
def yrd {α : Type} (all : List α) : List UInt8 -> List α
 | [] => []
 | x :: b => if h : x.toNat < all.length then all[all.length - 1 - x.toNat] :: yrd all b else yrd all b
def sumI : List Int -> Int
 | [] => 0
 | x :: l => x + sumI l
def sizN (all : List Int) (d : Nd) : Int := 1 + ((d.s.length / 8 : Nat) : Int) + sumI (yrd all d.b)
def ynk (l : List Nd) : Nat -> List Int
 | 0 => []
 | i + 1 => ynk l i ++ [sizN (ynk l i) (yw2 l i)]
def sizD (l : List Nd) (i : Nat) : Int := sizN (ynk l i) (yw2 l i)
def ykk (l : List Nd) (i : Nat) : Prop := sizD l i <= 2000 /\ (yw2 l i).s.length <= 9000 /\ (yw2 l i).b.length <= 20 /\ l.length <= 40
def ymf (l : List Nd) (i : Nat) : Prop := ∀ j, j < i -> ykk l j
instance (l : List Nd) (i : Nat) : Decidable (ykk l i) := by unfold ykk; exact inferInstance
instance (l : List Nd) (i : Nat) : Decidable (ymf l i) := by unfold ymf; exact Nat.decidableBallLT i fun j _ => ykk l j
end Sy
end Go.Proofs.YtogpolfhcbgcbaaGreatDoor
namespace Go.Proofs.YtogpolfhcbgcbaaGreatDoor
namespace Sy
open Go Go.RowKit
set_option maxRecDepth 100000
set_option linter.unusedSimpArgs false
set_option linter.unusedVariables false
end Sy
end Go.Proofs.YtogpolfhcbgcbaaGreatDoor
namespace Go.Proofs.YtogpolfhcbgcbaaGreatDoor
namespace Sy
open Go Go.RowKit
set_option maxRecDepth 100000
set_option linter.unusedSimpArgs false
set_option linter.unusedVariables false
structure Lv where
 left : Int
 l : List CV
structure NR where
 v : CV
 r : List UInt8
 e : Int
structure NX where
 st : List Lv
 s : List UInt8
 f : Nat
 v : CV
def zmu (e : Int) : NR := ⟨.mk 0 0 [] [], [], e⟩
def zfo (val : List Lv -> List UInt8 -> NR) : List Lv -> CV -> List UInt8 -> NR
 | [], v, s => ⟨v, s, 0⟩
 | a :: st, v, s => if a.left - 1 = 0 then zfo val st (.mk 3 0 [] (a.l ++ [v])) s else val (⟨a.left - 1, a.l ++ [v]⟩ :: st) s
def zjn (val : List Lv -> List UInt8 -> NR) : List Lv -> List UInt8 -> NR
 | [], s => zmu 0
 | a :: st, s => if a.left = 0 then zfo val st (.mk 3 0 [] a.l) s else val (a :: st) s
def zhl (s : List UInt8) : List UInt8 := (s.drop 1).drop (yxl (s.drop 1)).toNat
def zem : Nat -> List Lv -> List UInt8 -> NR
 | 0, _, _ => zmu 0
 | f + 1, st, s =>
   if s = [] then zmu 3
   else if cb s 0 < 1 \/ 3 < cb s 0 then zmu 10
   else if yw6 (s.drop 1) ≠ 0 then zmu (yw6 (s.drop 1))
   else if cb s 0 = 1 then zfo (zem f) st (.mk 1 (yow (s.drop 1)) [] []) (zhl s)
   else if cb s 0 = 2 then
     if ((zhl s).length : Int) < yow (s.drop 1) then zmu 3
     else zfo (zem f) st (.mk 2 0 ((zhl s).take (yow (s.drop 1)).toNat) []) ((zhl s).drop (yow (s.drop 1)).toNat)
   else if st.length = 6 then zmu 8
   else zjn (zem f) (⟨yow (s.drop 1), []⟩ :: st) (zhl s)
def ytd (s : List UInt8) : NR := if 8192 < s.length then zmu 5 else zem (s.length + 1) [] s
def ysl : List Lv -> Nat
 | [] => 0
 | a :: r => a.l.length + 1 + ysl r
def lvOk (st : List Lv) : Prop := ∀ a ∈ st, 1 <= a.left /\ a.left < 18446744073709551616
def yxh (s0 : List UInt8) (x : NX) : Prop := x.st.length <= 6 /\ lvOk x.st /\ x.s.length < x.f /\ x.s.length + ysl x.st <= 8192 /\ zem x.f x.st x.s = ytd s0
section
variable {s0 s : List UInt8} {st : List Lv} {f : Nat} {v : CV}
variable (h : yxh s0 ⟨st, s, f, v⟩)
include h
end
section
variable {s0 s : List UInt8} {st : List Lv} {f : Nat} {v : CV} {a : Lv}
end
end Sy
end Go.Proofs.YtogpolfhcbgcbaaGreatDoor
namespace Go.Proofs.YtogpolfhcbgcbaaGreatDoor
namespace Sy
open Go Go.RowKit
set_option maxRecDepth 100000
set_option linter.unusedSimpArgs false
set_option linter.unusedVariables false
theorem zp7 {m : Int} (h : zcy m) (g : Nat) (st : List Lv) (c : UInt8) (r : List UInt8) (hc : 1 <= c.toNat /\ c.toNat <= 3) : zem (g + 1) st (c :: (zb8 m ++ r)) =
   if c.toNat = 1 then zfo (zem g) st (.mk 1 m [] []) r
   else if c.toNat = 2 then
     if (r.length : Int) < m then zmu 3
     else zfo (zem g) st (.mk 2 0 (r.take m.toNat) []) (r.drop m.toNat)
   else if st.length = 6 then zmu 8
   else zjn (zem g) (⟨m, []⟩ :: st) r := by
 obtain ⟨e1, e2, e3⟩ := ytt h r
 have hcb : cb (c :: (zb8 m ++ r)) 0 = c.toNat := rfl
 have hr : zhl (c :: (zb8 m ++ r)) = r := by
   unfold zhl
   rw [List.drop_succ_cons, List.drop_zero, e2]
   simp
 rw [zem, if_neg (by simp), hcb, if_neg (by omega), List.drop_succ_cons, List.drop_zero, e1, e3, hr, if_neg (by simp)]
theorem yqi (v : CV) : 0 <= zdn v /\ 0 <= zb4 v.ls := by
 have h0 : ∀ b : List CV, 0 <= zb4 b := by
   intro b
   induction b with
   | nil => rw [zb4]; omega
   | cons v l ih => rw [zb4]; omega
 refine ⟨?_, h0 _⟩
 cases v with
 | mk k n s l =>
   rw [zdn]
   have := h0 l
   split <;> omega
def yrk (v : CV) : Prop := ∀ (st : List Lv) (s : List UInt8) (f : Nat), wfV v -> zg0 v = true -> (st.length : Int) + zdn v <= 6 -> (zby v).length <= 90000000 -> (zby v).length + s.length < f ->
 ∃ f', s.length < f' /\ zem f st (zby v ++ s) = zfo (zem f') st v s
theorem yhk (v : CV) : 0 < (zby v).length := by
 cases v with
 | mk k n s l =>
   rw [zar, List.length_append]
   show 0 < 1 + _
   omega
theorem zqi : ∀ l : List CV, l.length <= (zb2 l).length
 | [] => by simp
 | v :: l => by
   have := zqi l
   have := yhk v
   rw [zb2, List.length_append, List.length_cons]
   omega
theorem zvw (st : List Lv) (s : List UInt8) : ∀ (l : List CV) (acc : List CV) (f : Nat), (∀ w ∈ l, yrk w) -> zv3 l -> zdq l = true -> (st.length : Int) + 1 + zb4 l <= 6 -> (zb2 l).length <= 90000000 -> (zb2 l).length + s.length < f ->
   ∃ f', s.length < f' /\ zjn (zem f) (⟨(l.length : Int), acc⟩ :: st) (zb2 l ++ s) = zfo (zem f') st (.mk 3 0 [] (acc ++ l)) s
 | [], acc, f, hr, hw, hb, hd, ht, hf => by
   refine ⟨f, by rw [zb2] at hf; simpa using hf, ?_⟩
   rw [zjn, if_pos (show ((List.length ([] : List CV) : Nat) : Int) = 0 from rfl), zb2, List.nil_append, List.append_nil]
 | v :: l, acc, f, hr, hw, hb, hd, ht, hf => by
   rw [zv3] at hw
   rw [zdq, Bool.and_eq_true] at hb
   rw [zb4] at hd
   rw [zb2, List.length_append] at ht hf
   obtain ⟨f1, h1, e1⟩ := hr v (by simp) (⟨((v :: l).length : Int), acc⟩ :: st) (zb2 l ++ s) f hw.1 hb.1 (by rw [List.length_cons]; omega) (by omega) (by rw [List.length_append]; omega)
   rw [List.length_append] at h1
   obtain ⟨f2, h2, e2⟩ := zvw st s l (acc ++ [v]) f1 (fun w hw => hr w (by simp [hw])) hw.2 hb.2 (by omega) (by omega) h1
   refine ⟨f2, h2, ?_⟩
   rw [zjn, if_neg (by simp; omega), zb2, List.append_assoc, e1]
   have e3 : (((v :: l).length : Int) - 1) = (l.length : Int) := by simp
   rw [zjn] at e2
   rw [zfo]
   simp only [e3]
   rw [e2, List.append_assoc, List.singleton_append]
theorem reads (v : CV) : yrk v := by
 refine yfo (p := yrk) (fun k n s l ih => ?_) v
 intro st r f hw hb hd ht hf
 rw [wfV] at hw
 obtain ⟨g, rfl⟩ : ∃ g, f = g + 1 := ⟨f - 1, by omega⟩
 rw [zar] at ht hf |-
 rw [zg0] at hb
 by_cases h1 : k = 1
 · subst h1
   rw [if_pos rfl] at hb ht hf |-
   simp only [Bool.and_eq_true, decide_eq_true_eq, List.isEmpty_iff] at hb
   obtain ⟨rfl, rfl⟩ := hb
   rw [List.length_append] at hf
   have e : zgt 1 = [1] := rfl
   rw [e] at hf |-
   refine ⟨g, by simp at hf; omega, ?_⟩
   rw [List.singleton_append, List.cons_append, zp7 hw.1 g st 1 r (by decide)]
   rfl
 · rw [if_neg h1] at hb ht hf |-
   by_cases h2 : k = 2
   · subst h2
     rw [if_pos rfl] at hb ht hf |-
     simp only [Bool.and_eq_true, decide_eq_true_eq, List.isEmpty_iff] at hb
     obtain ⟨rfl, rfl⟩ := hb
     rw [List.length_append, List.length_append] at ht hf
     have e : zgt 2 = [2] := rfl
     rw [e] at hf |-
     refine ⟨g, by simp at hf; omega, ?_⟩
     rw [List.singleton_append, List.cons_append, List.append_assoc, zp7 ⟨by omega, by omega⟩ g st 2 (s ++ r) (by decide)]
     rw [if_neg (by decide), if_pos (by decide), if_neg (by simp; omega)]
     rw [Int.toNat_natCast, List.take_left, List.drop_left]
   · rw [if_neg h2] at hb ht hf |-
     by_cases h3 : k = 3
     · subst h3
       rw [if_pos rfl] at hb
       simp only [Bool.and_eq_true, decide_eq_true_eq] at hb
       obtain ⟨⟨rfl, rfl⟩, hb⟩ := hb
       rw [zdn, if_pos rfl] at hd
       rw [List.length_append, List.length_append] at ht hf
       have e : zgt 3 = [3] := rfl
       rw [e] at hf |-
       have hll := zqi l
       have hdn := (yqi (.mk 3 0 [] l)).2
       have hdn : 0 <= zb4 l := hdn
       obtain ⟨f', h5, h6⟩ := zvw st r l [] g ih hw.2.2 hb (by omega) (by omega) (by simp at hf; omega)
       refine ⟨f', h5, ?_⟩
       rw [List.singleton_append, List.cons_append, List.append_assoc, zp7 ⟨by omega, by omega⟩ g st 3 (zb2 l ++ r) (by decide)]
       rw [if_neg (by decide), if_neg (by decide), if_neg (by omega), h6, List.nil_append]
     · rw [if_neg h3] at hb; cases hb
end Sy
end Go.Proofs.YtogpolfhcbgcbaaGreatDoor
namespace Go.Proofs.YtogpolfhcbgcbaaGreatDoor
namespace Sy
open Go Go.RowKit
set_option maxRecDepth 100000
set_option linter.unusedSimpArgs false
set_option linter.unusedVariables false
theorem yt4 {v : CV} (h : ztb v = 0) : zg0 v = true /\ zdn v <= 6 /\ (zby v).length <= 8192 /\ zyo v = zby v := by
 have ht : zyo v = zby v := by unfold zyo; rw [if_pos h]
 unfold ztb at h
 split at h
 · rename_i h1
   split at h
   · cases h
   · rename_i h2
     split at h
     · cases h
     · rename_i h3
       exact ⟨h1, by omega, by omega, ht⟩
 · cases h
end Sy
end Go.Proofs.YtogpolfhcbgcbaaGreatDoor
namespace Go.Proofs.YtogpolfhcbgcbaaGreatDoor
namespace Sy
open Go Go.RowKit
set_option maxRecDepth 100000
set_option linter.unusedSimpArgs false
set_option linter.unusedVariables false
theorem zvh {n : Nat} {get : Nat -> Nat -> AV} {l : List CV} (hn : n = l.length) (h : ∀ i j, i < n -> j < 4 -> get i j = zei (zdv l i) j) : rdL (.lst 4 n get) = l /\ okL (.lst 4 n get) := by
 constructor
 · apply List.ext_getElem
   · rw [zlg, hn]
   · intro i h1 h2
     have hi : i < n := by omega
     have e : ∀ m : List CV, ∀ hm : i < m.length, m[i] = zdv m i := fun m hm => by rw [zdv, List.getD_eq_getElem?_getD, List.getElem?_eq_getElem hm]; rfl
     rw [e _ h1, e _ h2, zvg hi, h i 0 hi (by omega), h i 1 hi (by omega), h i 2 hi (by omega), h i 3 hi (by omega), zfz, zfy, zfx, zfw]
     show CV.mk _ _ _ (rdL (.lst 4 (zmr (zdv l i)) (zku (zdv l i)))) = _
     exact zdw _
 · refine ⟨rfl, fun i hi => ?_⟩
   rw [h i 0 hi (by omega), h i 1 hi (by omega), h i 2 hi (by omega), h i 3 hi (by omega), zfz, zfy, zfx, zfw]
   exact ⟨⟨_, rfl⟩, ⟨_, rfl⟩, ⟨_, rfl⟩, (zlh (zdv l i)).2⟩
end Sy
end Go.Proofs.YtogpolfhcbgcbaaGreatDoor
namespace Go.Proofs.YtogpolfhcbgcbaaGreatDoor
namespace Sy
open Go Go.RowKit
set_option maxRecDepth 100000
set_option linter.unusedSimpArgs false
set_option linter.unusedVariables false
structure Rt where
 h : List UInt8
 p : List UInt8
 c : List UInt8
 i : Int
 deriving DecidableEq
structure Ep where
 pl : Pl
 w : Int
 deriving DecidableEq
structure Ls where
 n : List UInt8
 pl : Pl
 rs : List Rt
 deriving DecidableEq
structure Cl where
 n : List UInt8
 es : List Ep
 deriving DecidableEq
structure Cf where
 v : Int
 ls : List Ls
 cs : List Cl
 deriving DecidableEq
def plC (L : zab) (x : Pl) : Nat -> AV
 | 0 => .int .u8 (L Pl.a x)
 | 1 => .int .u8 (L Pl.b x)
 | 2 => .int .u8 (L Pl.c x)
 | 3 => .int .u8 (L Pl.d x)
 | _ => .int .u16 (L Pl.p x)
def rdP (c : Nat -> AV) : Pl := ⟨(c 0).toI, (c 1).toI, (c 2).toI, (c 3).toI, (c 4).toI⟩
def yw1 (c : Nat -> AV) : Prop := isI .u8 (c 0) /\ isI .u8 (c 1) /\ isI .u8 (c 2) /\ isI .u8 (c 3) /\ isI .u16 (c 4)
def rtC (L : zab) (x : Rt) : Nat -> AV
 | 0 => .str (L Rt.h x)
 | 1 => .str (L Rt.p x)
 | 2 => .str (L Rt.c x)
 | _ => .int .u64 (L Rt.i x)
def rtV : Vw Rt := ⟨4, rtC, fun c => ⟨zvi (c 0), zvi (c 1), zvi (c 2), (c 3).toI⟩, fun c => isS (c 0) /\ isS (c 1) /\ isS (c 2) /\ isI .u64 (c 3), ⟨[], [], [], 0⟩⟩
def zao (l : List Rt) (i : Nat) : Rt := zi0 rtV l i
def yjd (L : zab) (l : List Rt) : AV := .lst 4 (L zbl l) (fun i => rtC L (L (L zao l) i))
def yom (x : AV) : Prop := okW rtV x
def yo2 (x : AV) : List Rt := rdW rtV x
def yiw (x : AV) : Prop := okG rtV x
def yif (x : AV) : Rt := rdG rtV x
def epC (L : zab) (x : Ep) : Nat -> AV
 | 5 => .int .i64 (L Ep.w x)
 | j => plC L (L Ep.pl x) j
def epV : Vw Ep := ⟨6, epC, fun c => ⟨rdP c, (c 5).toI⟩, fun c => yw1 c /\ isI .i64 (c 5), ⟨⟨0, 0, 0, 0, 0⟩, 0⟩⟩
def zhm (l : List Ep) (i : Nat) : Ep := zi0 epV l i
def ztr (L : zab) (l : List Ep) : AV := .lst 6 (L zbl l) (fun i => epC L (L (L zhm l) i))
def ztl (x : AV) : Prop := okW epV x
def zt6 (x : AV) : List Ep := rdW epV x
def zp5 (x : AV) : Prop := okG epV x
def zoy (x : AV) : Ep := rdG epV x
def lsC (L : zab) (x : Ls) : Nat -> AV
 | 0 => .str (L Ls.n x)
 | 6 => yjd L (L Ls.rs x)
 | j + 1 => plC L (L Ls.pl x) j
def lsV : Vw Ls := ⟨7, lsC, fun c => ⟨zvi (c 0), rdP (fun j => c (j + 1)), rdW rtV (c 6)⟩, fun c => isS (c 0) /\ yw1 (fun j => c (j + 1)) /\ okW rtV (c 6), ⟨[], ⟨0, 0, 0, 0, 0⟩, []⟩⟩
def zc8 (l : List Ls) (i : Nat) : Ls := zi0 lsV l i
def zmz (L : zab) (l : List Ls) : AV := .lst 7 (L zbl l) (fun i => lsC L (L (L zc8 l) i))
def ztk (x : AV) : Prop := okW lsV x
def zt4 (x : AV) : List Ls := rdW lsV x
def zii (x : AV) : Prop := okG lsV x
def zcg (x : AV) : Ls := rdG lsV x
def clC (L : zab) (x : Cl) : Nat -> AV
 | 0 => .str (L Cl.n x)
 | _ => ztr L (L Cl.es x)
def clV : Vw Cl := ⟨2, clC, fun c => ⟨zvi (c 0), rdW epV (c 1)⟩, fun c => isS (c 0) /\ okW epV (c 1), ⟨[], []⟩⟩
def zd4 (l : List Cl) (i : Nat) : Cl := zi0 clV l i
def zke (L : zab) (l : List Cl) : AV := .lst 2 (L zbl l) (fun i => clC L (L (L zd4 l) i))
def zlo (x : AV) : Prop := okW clV x
def zlj (x : AV) : List Cl := rdW clV x
def zij (x : AV) : Prop := okG clV x
def zia (x : AV) : Cl := rdG clV x
def cfC (L : zab) (x : Cf) : Nat -> AV
 | 0 => .int .u64 (L Cf.v x)
 | 1 => zmz L (L Cf.ls x)
 | _ => zke L (L Cf.cs x)
def cfV : Vw Cf := ⟨3, cfC, fun c => ⟨(c 0).toI, rdW lsV (c 1), rdW clV (c 2)⟩, fun c => isI .u64 (c 0) /\ okW lsV (c 1) /\ okW clV (c 2), ⟨0, [], []⟩⟩
def zp6 (x : AV) : Prop := okG cfV x
def zfm (x : AV) : Cf := rdG cfV x
theorem zk3 : zso rtV := by
 refine ⟨fun c hc j hj h D μ v r => ?_, fun c x hx => ?_⟩
 · obtain ⟨h0, h1, h2, h3⟩ := hc
   match j, hj with
   | 0, _ => exact yec h0 r
   | 1, _ => exact yec h1 r
   | 2, _ => exact yec h2 r
   | 3, _ => exact zri h3 r
 · have e0 := hx 0 (by decide)
   have e1 := hx 1 (by decide)
   have e2 := hx 2 (by decide)
   have e3 := hx 3 (by decide)
   refine ⟨⟨⟨_, e0⟩, ⟨_, e1⟩, ⟨_, e2⟩, ⟨_, e3⟩⟩, ?_⟩
   show Rt.mk (zvi (c 0)) (zvi (c 1)) (zvi (c 2)) (c 3).toI = x
   rw [e0, e1, e2, e3]; rfl
theorem zeu {c : Nat -> AV} (hc : yw1 c) {j : Nat} (hj : j < 5) {h : Array Obj} {D : Nat -> Prop} {μ : Mu} {v : Value} (r : R h D μ (c j) v) : R h D μ (plC std (rdP c) j) v := by
 obtain ⟨h0, h1, h2, h3, h4⟩ := hc
 match j, hj with
 | 0, _ => exact zri h0 r
 | 1, _ => exact zri h1 r
 | 2, _ => exact zri h2 r
 | 3, _ => exact zri h3 r
 | 4, _ => exact zri h4 r
theorem yd4 {c : Nat -> AV} {x : Pl} (hx : ∀ j, j < 5 -> c j = plC std x j) : yw1 c /\ rdP c = x := by
 have e0 := hx 0 (by decide)
 have e1 := hx 1 (by decide)
 have e2 := hx 2 (by decide)
 have e3 := hx 3 (by decide)
 have e4 := hx 4 (by decide)
 refine ⟨⟨⟨_, e0⟩, ⟨_, e1⟩, ⟨_, e2⟩, ⟨_, e3⟩, ⟨_, e4⟩⟩, ?_⟩
 unfold rdP
 rw [e0, e1, e2, e3, e4]; rfl
theorem zfb : zso epV := by
 refine ⟨fun c hc j hj h D μ v r => ?_, fun c x hx => ?_⟩
 · obtain ⟨h0, h1⟩ := hc
   match j, hj with
   | 0, _ => exact zeu h0 (by omega) r
   | 1, _ => exact zeu h0 (by omega) r
   | 2, _ => exact zeu h0 (by omega) r
   | 3, _ => exact zeu h0 (by omega) r
   | 4, _ => exact zeu h0 (by omega) r
   | 5, _ => exact zri h1 r
 · have e5 := hx 5 (by decide)
   have hp := yd4 (c := c) (x := x.pl) (fun j hj => by
     match j, hj with
     | 0, _ => exact hx 0 (by decide)
     | 1, _ => exact hx 1 (by decide)
     | 2, _ => exact hx 2 (by decide)
     | 3, _ => exact hx 3 (by decide)
     | 4, _ => exact hx 4 (by decide))
   refine ⟨⟨hp.1, ⟨_, e5⟩⟩, ?_⟩
   show Ep.mk (rdP c) (c 5).toI = x
   rw [hp.2, e5]; rfl
theorem zct : zso lsV := by
 refine ⟨fun c hc j hj h D μ v r => ?_, fun c x hx => ?_⟩
 · obtain ⟨h0, h1, h2⟩ := hc
   match j, hj with
   | 0, _ => exact yec h0 r
   | 1, _ => exact zeu (c := fun j => c (j + 1)) h1 (j := 0) (by omega) r
   | 2, _ => exact zeu (c := fun j => c (j + 1)) h1 (j := 1) (by omega) r
   | 3, _ => exact zeu (c := fun j => c (j + 1)) h1 (j := 2) (by omega) r
   | 4, _ => exact zeu (c := fun j => c (j + 1)) h1 (j := 3) (by omega) r
   | 5, _ => exact zeu (c := fun j => c (j + 1)) h1 (j := 4) (by omega) r
   | 6, _ => exact zyw zk3 h2 r
 · have e0 := hx 0 (by decide)
   have e6 := hx 6 (by decide)
   have hp := yd4 (c := fun j => c (j + 1)) (x := x.pl) (fun j hj => by
     match j, hj with
     | 0, _ => exact hx 1 (by decide)
     | 1, _ => exact hx 2 (by decide)
     | 2, _ => exact hx 3 (by decide)
     | 3, _ => exact hx 4 (by decide)
     | 4, _ => exact hx 5 (by decide))
   have e6 : c 6 = zz7 std rtV x.rs := e6
   obtain ⟨k1, k2⟩ := zcd zk3 x.rs
   rw [<- e6] at k1 k2
   refine ⟨⟨⟨_, e0⟩, hp.1, k1⟩, ?_⟩
   show Ls.mk (zvi (c 0)) (rdP fun j => c (j + 1)) (rdW rtV (c 6)) = x
   rw [hp.2, k2, e0]; rfl
theorem zd8 : zso clV := by
 refine ⟨fun c hc j hj h D μ v r => ?_, fun c x hx => ?_⟩
 · obtain ⟨h0, h1⟩ := hc
   match j, hj with
   | 0, _ => exact yec h0 r
   | 1, _ => exact zyw zfb h1 r
 · have e0 := hx 0 (by decide)
   have e1 : c 1 = zz7 std epV x.es := hx 1 (by decide)
   obtain ⟨k1, k2⟩ := zcd zfb x.es
   rw [<- e1] at k1 k2
   refine ⟨⟨⟨_, e0⟩, k1⟩, ?_⟩
   show Cl.mk (zvi (c 0)) (rdW epV (c 1)) = x
   rw [k2, e0]; rfl
theorem zoa : zso cfV := by
 refine ⟨fun c hc j hj h D μ v r => ?_, fun c x hx => ?_⟩
 · obtain ⟨h0, h1, h2⟩ := hc
   match j, hj with
   | 0, _ => exact zri h0 r
   | 1, _ => exact zyw zct h1 r
   | 2, _ => exact zyw zd8 h2 r
 · have e0 := hx 0 (by decide)
   have e1 : c 1 = zz7 std lsV x.ls := hx 1 (by decide)
   have e2 : c 2 = zz7 std clV x.cs := hx 2 (by decide)
   obtain ⟨k1, k2⟩ := zcd zct x.ls
   obtain ⟨k3, k4⟩ := zcd zd8 x.cs
   rw [<- e1] at k1 k2
   rw [<- e2] at k3 k4
   refine ⟨⟨⟨_, e0⟩, k1, k3⟩, ?_⟩
   show Cf.mk (c 0).toI (rdW lsV (c 1)) (rdW clV (c 2)) = x
   rw [k2, k4, e0]; rfl
end Sy
end Go.Proofs.YtogpolfhcbgcbaaGreatDoor
namespace Go.Proofs.YtogpolfhcbgcbaaGreatDoor
namespace Sy
open Go Go.RowKit
set_option maxRecDepth 100000
set_option linter.unusedSimpArgs false
set_option linter.unusedVariables false
theorem yiy {α : Type} {V : Vw α} (val : α -> CV) {l : List α} {i : Nat} (h : i < l.length) : zdv (l.map val) i = val (zi0 V l i) := by
 rw [zas h, zdv, List.getD_eq_getElem?_getD, List.getElem?_eq_getElem (by simpa using h)]; simp
theorem zks {α : Type} {V : Vw α} {val : α -> CV} {l : List α} {n : Nat} (h : n = l.length) :
   rdL (.lst 4 n fun q j => cv1 std (val (zi0 V l q)) j) = l.map val /\ okL (.lst 4 n fun q j => cv1 std (val (zi0 V l q)) j) :=
 zvh (by simpa using h) fun i j hi hj => by rw [zul _ _ hj, yiy (V := V) val (by omega)]
def zxd : List CV -> List AV
 | [] => []
 | v :: l => .int .i64 v.kd :: .int .u64 v.nn :: .str v.tx :: .lst 4 (zmr v) (zku v) :: zxd l
theorem zs5 : ∀ (l : List CV) (i j : Nat), i < l.length -> j < 4 -> zbn .dead (zxd l) (i * 4 + j) = zei (zdv l i) j
 | [], i, j, hi, _ => by simp at hi
 | v :: l, 0, j, _, hj => by
   match j, hj with
   | 0, _ => exact (zfz v).symm
   | 1, _ => exact (zfy v).symm
   | 2, _ => exact (zfx v).symm
   | 3, _ => exact (zfw v).symm
 | v :: l, i + 1, j, hi, hj => by
   rw [show (i + 1) * 4 + j = i * 4 + j + 4 by omega]
   exact zs5 l i j (by simpa using hi) hj
theorem zmi (l : List CV) {n : Nat} {cs : List AV} (hn : n = l.length) (h : cs = zxd l) : rdL (.lst 4 n fun i j => zbn .dead cs (i * 4 + j)) = l /\ okL (.lst 4 n fun i j => zbn .dead cs (i * 4 + j)) :=
 zvh hn fun i j hi hj => by rw [h]; exact zs5 l i j (by omega) hj
theorem zs3 {v w : CV} (h : v = w) : zg4 (cvA std v) (.agg [.int .i64 w.kd, .int .u64 w.nn, .str w.tx, .lst 4 (zmr w) (zku w)]) := by
 subst h
 show zg4 (.agg [.int .i64 v.kd, .int .u64 v.nn, .str v.tx, .lst 4 (zmr v) (zku v)]) _
 simp [zgq, zdf, ze2, zfa, ze3]
theorem zjh (l : List CV) {v : CV} {n : Nat} {cs : List AV} (hv : v = ze0 l) (hn : n = l.length) (hl : l.length <= 4) (h : cs = zxd l) :
   (okL (.lst 4 n fun i j => zbn .dead cs (i * 4 + j)) /\ ye6 (rdL (.lst 4 n fun i j => zbn .dead cs (i * 4 + j)))) /\
   ∀ {w : CV}, w = ze0 (rdL (.lst 4 n fun i j => zbn .dead cs (i * 4 + j))) -> zg4 (cvA std v) (.agg [.int .i64 w.kd, .int .u64 w.nn, .str w.tx, .lst 4 (zmr w) (zku w)]) := by
 obtain ⟨k1, k2⟩ := zmi l hn h
 refine ⟨⟨k2, ?_⟩, fun {w} hw => zs3 ?_⟩
 · rw [k1]
   show l.length <= 1000000
   omega
 · rw [hw, k1, hv]
end Sy
end Go.Proofs.YtogpolfhcbgcbaaGreatDoor
namespace Go.Proofs.YtogpolfhcbgcbaaGreatDoor
namespace Sy
open Go Go.RowKit
set_option maxRecDepth 100000
set_option linter.unusedSimpArgs false
set_option linter.unusedVariables false
def zsi {α : Type} (f : Nat) (ok : AV -> Prop) (rd : AV -> α) (pre : α -> Prop) (val : α -> CV) (L : zab) : zbb := (f, fun xs => match xs with
 | [x] => some (L ok x /\ L pre (L rd x), cvA L (L val (L rd x)))
 | _ => none)
def zg3 {α : Type} (l : List α) : Prop := l.length <= 1000000
def yap {α : Type} (p : α -> Prop) (l : List α) : Prop := ∀ x ∈ l, p x
def zpy {α : Type} (val : α -> CV) (l : List α) : CV := ze0 (l.map val)
def zkf {α : Type} (f g : Nat) (ok : AV -> Prop) (rd : AV -> List α) (pre : List α -> Prop) (val : List α -> CV) (L : zab) : zbb := (f, fun xs => match xs with
 | [x, .fn k [] []] => match zat k g with
   | true => some (L ok x /\ L zg3 (L rd x) /\ L pre (L rd x), cvA L (L val (L rd x)))
   | false => none
 | _ => none)
def ykp {α : Type} (L : zab) (nth : List α -> Nat -> α) (val : α -> CV) (l : List α) : Nat -> St -> Option Ann := fun id st => match id with
 | 0 => some ⟨Nat, fun i => [(10, .int .i64 (L za7 i)), (4, .ref 4 0), (5, .sl 900 4 0 i)], fun i => [(900, .row 117 4 i (fun q j => cv1 L (L val (L (L nth l) q)) j)), (4, .box 117 [.dead, .dead, .dead, .dead])], [0, 1, 8, 9], [],
     fun i => L2 L (fun (l : List α) i => i <= l.length) l i, fun i => L2 L (fun (l : List α) (i : Nat) => l.length - i) l i⟩
 | _ => none
def zi9 (x : Rt) : CV := ze0 [zkh x.h, zkh x.p, zkh x.c, zhd x.i]
def zix (x : Ep) : CV := ze0 [zkh (plB x.pl), zhd (x.w % 18446744073709551616)]
def zyf (x : Rt) : Prop := True
def zzv (x : Ep) : Prop := yaj x.pl
def zvb (l : List Rt) : CV := zpy zi9 l
def zx8 (l : List Ep) : CV := zpy zix l
def ylr (l : List Rt) : Prop := yap zyf l
def yfh (l : List Ep) : Prop := yap zzv l
theorem zyi : zay Tryz.prog (zsi 119 yiw yif zyf zi9 std) := by
 intro xs p r h hp
 dsimp only [zsi] at h |-
 split at h <;> cases h
 try simp only [L2, L3, std] at hp |-
 rename_i x
 refine zsn zk3 hp.1 ?_
 have hp := hp.2
 show zad _ _ _ (cvA std (zi9 (rdG rtV x)))
 have hp : zyf (rdG rtV x) := hp
 generalize rdG rtV x = y at hp |-
 refine za8 (T := tt) (S := fun L => zam [zxq L, zyy L, zg2 L]) (lo := fun _ => noA std) (lb := noA) 5 (fn := Tryz.f119) (xs := fun L => [.agg [.str (L Rt.h y), .str (L Rt.p y), .str (L Rt.c y), .int .u64 (L Rt.i y)]]) rfl rfl (by kernel_rfl) (by kernel_rfl) rfl zac (za2 ⟨zkg, zkk, zch, trivial⟩) (by kernel_rfl) ?_
 intro L P' Q' hL hP hQ
 (cbv; try simp only [syT, true_and, and_true])
 (subst hL; subst hQ; simp only [L2, L3, std] at *; try simp only [syS, reduceCtorEq, Int.reduceToNat, Int.reduceAdd, Int.reduceSub] at *)
 exact ⟨(zjh [zkh y.h, zkh y.p, zkh y.c, zhd y.i] (v := zi9 y) (n := 4) rfl rfl (Nat.le_of_ble_eq_true rfl) rfl).1, (zjh [zkh y.h, zkh y.p, zkh y.c, zhd y.i] (v := zi9 y) (n := 4) rfl rfl (Nat.le_of_ble_eq_true rfl) rfl).2 rfl⟩
theorem zpw : zay Tryz.prog (zsi 121 zp5 zoy zzv zix std) := by
 intro xs p r h hp
 dsimp only [zsi] at h |-
 split at h <;> cases h
 try simp only [L2, L3, std] at hp |-
 rename_i x
 refine zsn zfb hp.1 ?_
 have hp := hp.2
 show zad _ _ _ (cvA std (zix (rdG epV x)))
 have hp : zzv (rdG epV x) := hp
 generalize rdG epV x = y at hp |-
 refine za8 (T := tt) (S := fun L => zam [zxq L, zyy L, zg2 L, zq6 L]) (lo := fun _ => noA std) (lb := noA) 5 (fn := Tryz.f121) (xs := fun L => [.agg [.int .u8 (L Pl.a (L Ep.pl y)), .int .u8 (L Pl.b (L Ep.pl y)), .int .u8 (L Pl.c (L Ep.pl y)), .int .u8 (L Pl.d (L Ep.pl y)), .int .u16 (L Pl.p (L Ep.pl y)), .int .i64 (L Ep.w y)]]) rfl rfl (by kernel_rfl) (by kernel_rfl) rfl zac (za2 ⟨zkg, zkk, zch, zob, trivial⟩) (by kernel_rfl) ?_
 intro L P' Q' hL hP hQ
 (cbv; try simp only [syT, true_and, and_true])
 (subst hL; subst hQ; simp only [L2, L3, std] at *; try simp only [syS, reduceCtorEq, Int.reduceToNat, Int.reduceAdd, Int.reduceSub] at *)
 refine ⟨hp, (zjh [zkh (plB y.pl), zhd (y.w % 18446744073709551616)] (v := zix y) (n := 2) rfl rfl (Nat.le_of_ble_eq_true rfl) rfl).1, (zjh [zkh (plB y.pl), zhd (y.w % 18446744073709551616)] (v := zix y) (n := 2) rfl rfl (Nat.le_of_ble_eq_true rfl) rfl).2 rfl⟩
theorem zue (ih : zay Tryz.prog (zsi 119 yiw yif zyf zi9 std)) : zay Tryz.prog (zkf 118 119 yom yo2 ylr zvb std) := by
 intro xs p r h hp
 unfold zkf at h
 simp only at h
 split at h
 rotate_left
 · cases h
 rename_i x k
 cases hk : zat k 119 with
 | false => rw [hk] at h; cases h
 | true =>
 rw [hk] at h
 obtain rfl : k = 119 := of_decide_eq_true hk
 cases h
 obtain ⟨ho, hz, ha⟩ := hp
 refine zhf zk3 ho ?_
 have hz : zg3 (rdW rtV x) := hz
 have ha : yap zyf (rdW rtV x) := ha
 show zad _ _ _ (cvA std (zpy zi9 (rdW rtV x)))
 generalize rdW rtV x = l at hz ha |-
 refine za8 (T := tt) (S := fun L => zam [zsi 119 yiw yif zyf zi9 L, zg2 L]) (lo := fun L => ykp L zao zi9 l) (lb := noA) 5 (fn := Tryz.f118) (xs := fun L => [yjd L l, .fn 119 [] []]) rfl rfl (by kernel_rfl) (by kernel_rfl) rfl zac
   (za2 ⟨ih, zch, trivial⟩) (by kernel_rfl) ?_
 intro L P' Q' hL hP hQ
 (cbv; try simp only [syT, true_and, and_true])
 refine ⟨⟨0, ?_⟩, fun i hi => ?_⟩
 · (cbv; try simp only [syT, true_and, and_true])
   (subst hL; subst hQ; simp only [L2, L3, std] at *; try simp only [syS, reduceCtorEq, Int.reduceToNat, Int.reduceAdd, Int.reduceSub] at *)
   exact Nat.zero_le _
 · cbv at hi
   have hG : ∀ y : Rt, L yif (.agg [.str (L Rt.h y), .str (L Rt.p y), .str (L Rt.c y), .int .u64 (L Rt.i y)]) = y := by subst hL; exact fun y => (gK zk3 y _ rfl).2
   have hO : ∀ y : Rt, L yiw (.agg [.str (L Rt.h y), .str (L Rt.p y), .str (L Rt.c y), .int .u64 (L Rt.i y)]) := by subst hL; exact fun y => (gK zk3 y _ rfl).1
   (cbv; try simp only [syT, true_and, and_true])
   simp only [hG, hO, true_and]
   refine ⟨fun hlt => ⟨?_, ?_, ?_, ⟨i + 1, ?_⟩⟩, fun hge => ?_⟩
   · (subst hL; subst hQ; simp only [L2, L3, std] at *; try simp only [syS, reduceCtorEq, Int.reduceToNat, Int.reduceAdd, Int.reduceSub] at *)
     omega
   · (subst hL; subst hQ; simp only [L2, L3, std] at *; try simp only [syS, reduceCtorEq, Int.reduceToNat, Int.reduceAdd, Int.reduceSub] at *)
     exact ha _ (by rw [zao, zas (V := rtV) (by have : zbl l = l.length := rfl; omega)]; exact List.getElem_mem _)
   · (subst hL; subst hQ; simp only [L2, L3, std] at *; try simp only [syS, reduceCtorEq, Int.reduceToNat, Int.reduceAdd, Int.reduceSub] at *)
     have : zbl l = l.length := rfl
     have : l.length <= 1000000 := hz
     omega
   · (cbv; try simp only [syT, true_and, and_true])
     try simp only [hG]
     (subst hL; subst hQ; simp only [L2, L3, std] at *; try simp only [syS, reduceCtorEq, Int.reduceToNat, Int.reduceAdd, Int.reduceSub] at *)
     have : zbl l = l.length := rfl
     have : l.length <= 1000000 := hz
     exact ⟨fun q j hq hj => zq1 (fun q => zi9 (zao l q)) hq hj, by omega, by omega, by omega⟩
   · (subst hL; subst hQ; simp only [L2, L3, std] at *; try simp only [syS, reduceCtorEq, Int.reduceToNat, Int.reduceAdd, Int.reduceSub] at *)
     have : zbl l = l.length := rfl
     obtain ⟨k1, k2⟩ := zks (V := rtV) (val := zi9) (l := l) (n := i) (by omega)
     refine ⟨⟨k2, ?_⟩, zs3 ?_⟩
     · show List.length _ <= 1000000
       have k1 : rdL (.lst 4 i fun q j => cv1 std (zi9 (zao l q)) j) = l.map zi9 := k1
       rw [k1, List.length_map]; exact hz
     · exact (congrArg ze0 k1).symm
theorem zug (ih : zay Tryz.prog (zsi 121 zp5 zoy zzv zix std)) : zay Tryz.prog (zkf 120 121 ztl zt6 yfh zx8 std) := by
 intro xs p r h hp
 unfold zkf at h
 simp only at h
 split at h
 rotate_left
 · cases h
 rename_i x k
 cases hk : zat k 121 with
 | false => rw [hk] at h; cases h
 | true =>
 rw [hk] at h
 obtain rfl : k = 121 := of_decide_eq_true hk
 cases h
 obtain ⟨ho, hz, ha⟩ := hp
 refine zhf zfb ho ?_
 have hz : zg3 (rdW epV x) := hz
 have ha : yap zzv (rdW epV x) := ha
 show zad _ _ _ (cvA std (zpy zix (rdW epV x)))
 generalize rdW epV x = l at hz ha |-
 refine za8 (T := tt) (S := fun L => zam [zsi 121 zp5 zoy zzv zix L, zg2 L]) (lo := fun L => ykp L zhm zix l) (lb := noA) 5 (fn := Tryz.f120) (xs := fun L => [ztr L l, .fn 121 [] []]) rfl rfl (by kernel_rfl) (by kernel_rfl) rfl zac
   (za2 ⟨ih, zch, trivial⟩) (by kernel_rfl) ?_
 intro L P' Q' hL hP hQ
 (cbv; try simp only [syT, true_and, and_true])
 refine ⟨⟨0, ?_⟩, fun i hi => ?_⟩
 · (cbv; try simp only [syT, true_and, and_true])
   (subst hL; subst hQ; simp only [L2, L3, std] at *; try simp only [syS, reduceCtorEq, Int.reduceToNat, Int.reduceAdd, Int.reduceSub] at *)
   exact Nat.zero_le _
 · cbv at hi
   have hG : ∀ y : Ep, L zoy (.agg [.int .u8 (L Pl.a (L Ep.pl y)), .int .u8 (L Pl.b (L Ep.pl y)), .int .u8 (L Pl.c (L Ep.pl y)), .int .u8 (L Pl.d (L Ep.pl y)), .int .u16 (L Pl.p (L Ep.pl y)), .int .i64 (L Ep.w y)]) = y := by subst hL; exact fun y => (gK zfb y _ rfl).2
   have hO : ∀ y : Ep, L zp5 (.agg [.int .u8 (L Pl.a (L Ep.pl y)), .int .u8 (L Pl.b (L Ep.pl y)), .int .u8 (L Pl.c (L Ep.pl y)), .int .u8 (L Pl.d (L Ep.pl y)), .int .u16 (L Pl.p (L Ep.pl y)), .int .i64 (L Ep.w y)]) := by subst hL; exact fun y => (gK zfb y _ rfl).1
   (cbv; try simp only [syT, true_and, and_true])
   simp only [hG, hO, true_and]
   refine ⟨fun hlt => ⟨?_, ?_, ?_, ⟨i + 1, ?_⟩⟩, fun hge => ?_⟩
   · (subst hL; subst hQ; simp only [L2, L3, std] at *; try simp only [syS, reduceCtorEq, Int.reduceToNat, Int.reduceAdd, Int.reduceSub] at *)
     omega
   · (subst hL; subst hQ; simp only [L2, L3, std] at *; try simp only [syS, reduceCtorEq, Int.reduceToNat, Int.reduceAdd, Int.reduceSub] at *)
     exact ha _ (by rw [zhm, zas (V := epV) (by have : zbl l = l.length := rfl; omega)]; exact List.getElem_mem _)
   · (subst hL; subst hQ; simp only [L2, L3, std] at *; try simp only [syS, reduceCtorEq, Int.reduceToNat, Int.reduceAdd, Int.reduceSub] at *)
     have : zbl l = l.length := rfl
     have : l.length <= 1000000 := hz
     omega
   · (cbv; try simp only [syT, true_and, and_true])
     try simp only [hG]
     (subst hL; subst hQ; simp only [L2, L3, std] at *; try simp only [syS, reduceCtorEq, Int.reduceToNat, Int.reduceAdd, Int.reduceSub] at *)
     have : zbl l = l.length := rfl
     have : l.length <= 1000000 := hz
     exact ⟨fun q j hq hj => zq1 (fun q => zix (zhm l q)) hq hj, by omega, by omega, by omega⟩
   · (subst hL; subst hQ; simp only [L2, L3, std] at *; try simp only [syS, reduceCtorEq, Int.reduceToNat, Int.reduceAdd, Int.reduceSub] at *)
     have : zbl l = l.length := rfl
     obtain ⟨k1, k2⟩ := zks (V := epV) (val := zix) (l := l) (n := i) (by omega)
     refine ⟨⟨k2, ?_⟩, zs3 ?_⟩
     · show List.length _ <= 1000000
       have k1 : rdL (.lst 4 i fun q j => cv1 std (zix (zhm l q)) j) = l.map zix := k1
       rw [k1, List.length_map]; exact hz
     · exact (congrArg ze0 k1).symm
def zjq (x : Ls) : CV := ze0 [zkh x.n, zkh (plB x.pl), zvb x.rs]
def zjx (x : Cl) : CV := ze0 [zkh x.n, zx8 x.es]
def zz8 (x : Ls) : Prop := yaj x.pl /\ zg3 x.rs
def zzz (x : Cl) : Prop := zg3 x.es /\ yfh x.es
def ye1 (l : List Ls) : CV := zpy zjq l
def yfw (l : List Cl) : CV := zpy zjx l
def ym8 (l : List Ls) : Prop := yap zz8 l
def yms (l : List Cl) : Prop := yap zzz l
theorem yx2 (l : List Rt) : yo2 (.lst 4 (zbl l) fun i => rtC std (zao l i)) = l := (zcd zk3 l).2
theorem yxd (l : List Rt) : yom (.lst 4 (zbl l) fun i => rtC std (zao l i)) := (zcd zk3 l).1
theorem yo0 (l : List Ep) : zt6 (.lst 6 (zbl l) fun i => epC std (zhm l i)) = l := (zcd zfb l).2
theorem yol (l : List Ep) : ztl (.lst 6 (zbl l) fun i => epC std (zhm l i)) := (zcd zfb l).1
theorem ynz (l : List Ls) : zt4 (.lst 7 (zbl l) fun i => lsC std (zc8 l i)) = l := (zcd zct l).2
theorem yok (l : List Ls) : ztk (.lst 7 (zbl l) fun i => lsC std (zc8 l i)) := (zcd zct l).1
theorem yct (l : List Cl) : zlj (.lst 2 (zbl l) fun i => clC std (zd4 l i)) = l := (zcd zd8 l).2
theorem ydh (l : List Cl) : zlo (.lst 2 (zbl l) fun i => clC std (zd4 l i)) := (zcd zd8 l).1
theorem zpf : zay Tryz.prog (zsi 87 zii zcg zz8 zjq std) := by
 intro xs p r h hp
 dsimp only [zsi] at h |-
 split at h <;> cases h
 try simp only [L2, L3, std] at hp |-
 rename_i x
 refine zsn zct hp.1 ?_
 have hp := hp.2
 show zad _ _ _ (cvA std (zjq (rdG lsV x)))
 have hp : zz8 (rdG lsV x) := hp
 generalize rdG lsV x = y at hp |-
 refine za8 (T := tt) (S := fun L => zam [zxq L, zg2 L, zq6 L, zkf 118 119 yom yo2 ylr zvb L]) (lo := fun _ => noA std) (lb := noA) 5 (fn := Tryz.f87) (xs := fun L => [.agg [.str (L Ls.n y), .int .u8 (L Pl.a (L Ls.pl y)), .int .u8 (L Pl.b (L Ls.pl y)), .int .u8 (L Pl.c (L Ls.pl y)), .int .u8 (L Pl.d (L Ls.pl y)), .int .u16 (L Pl.p (L Ls.pl y)), yjd L (L Ls.rs y)]]) rfl rfl (by kernel_rfl) (by kernel_rfl) rfl zac (za2 ⟨zkg, zch, zob, zue zyi, trivial⟩) (by kernel_rfl) ?_
 intro L P' Q' hL hP hQ
 (cbv; try simp only [syT, true_and, and_true])
 (subst hL; subst hQ; simp only [L2, L3, std] at *; try simp only [syS, reduceCtorEq, Int.reduceToNat, Int.reduceAdd, Int.reduceSub] at *)
 simp only [yx2]
 obtain ⟨k1, k2⟩ := zjh [zkh y.n, zkh (plB y.pl), zvb y.rs] (v := zjq y) (n := 3) rfl rfl (Nat.le_of_ble_eq_true rfl) rfl
 exact ⟨hp.1, ⟨yxd _, hp.2, fun _ _ => trivial⟩, k1, k2 rfl⟩
theorem zs4 : zay Tryz.prog (zsi 89 zij zia zzz zjx std) := by
 intro xs p r h hp
 dsimp only [zsi] at h |-
 split at h <;> cases h
 try simp only [L2, L3, std] at hp |-
 rename_i x
 refine zsn zd8 hp.1 ?_
 have hp := hp.2
 show zad _ _ _ (cvA std (zjx (rdG clV x)))
 have hp : zzz (rdG clV x) := hp
 generalize rdG clV x = y at hp |-
 refine za8 (T := tt) (S := fun L => zam [zxq L, zg2 L, zkf 120 121 ztl zt6 yfh zx8 L]) (lo := fun _ => noA std) (lb := noA) 5 (fn := Tryz.f89) (xs := fun L => [.agg [.str (L Cl.n y), ztr L (L Cl.es y)]]) rfl rfl (by kernel_rfl) (by kernel_rfl) rfl zac (za2 ⟨zkg, zch, zug zpw, trivial⟩) (by kernel_rfl) ?_
 intro L P' Q' hL hP hQ
 (cbv; try simp only [syT, true_and, and_true])
 (subst hL; subst hQ; simp only [L2, L3, std] at *; try simp only [syS, reduceCtorEq, Int.reduceToNat, Int.reduceAdd, Int.reduceSub] at *)
 simp only [yo0]
 obtain ⟨k1, k2⟩ := zjh [zkh y.n, zx8 y.es] (v := zjx y) (n := 2) rfl rfl (Nat.le_of_ble_eq_true rfl) rfl
 exact ⟨⟨yol _, hp.1, hp.2⟩, k1, k2 rfl⟩
theorem zuf (ih : zay Tryz.prog (zsi 87 zii zcg zz8 zjq std)) : zay Tryz.prog (zkf 86 87 ztk zt4 ym8 ye1 std) := by
 intro xs p r h hp
 unfold zkf at h
 simp only at h
 split at h
 rotate_left
 · cases h
 rename_i x k
 cases hk : zat k 87 with
 | false => rw [hk] at h; cases h
 | true =>
 rw [hk] at h
 obtain rfl : k = 87 := of_decide_eq_true hk
 cases h
 obtain ⟨ho, hz, ha⟩ := hp
 refine zhf zct ho ?_
 have hz : zg3 (rdW lsV x) := hz
 have ha : yap zz8 (rdW lsV x) := ha
 show zad _ _ _ (cvA std (zpy zjq (rdW lsV x)))
 generalize rdW lsV x = l at hz ha |-
 refine za8 (T := tt) (S := fun L => zam [zsi 87 zii zcg zz8 zjq L, zg2 L]) (lo := fun L => ykp L zc8 zjq l) (lb := noA) 5 (fn := Tryz.f86) (xs := fun L => [zmz L l, .fn 87 [] []]) rfl rfl (by kernel_rfl) (by kernel_rfl) rfl zac
   (za2 ⟨ih, zch, trivial⟩) (by kernel_rfl) ?_
 intro L P' Q' hL hP hQ
 (cbv; try simp only [syT, true_and, and_true])
 refine ⟨⟨0, ?_⟩, fun i hi => ?_⟩
 · (cbv; try simp only [syT, true_and, and_true])
   (subst hL; subst hQ; simp only [L2, L3, std] at *; try simp only [syS, reduceCtorEq, Int.reduceToNat, Int.reduceAdd, Int.reduceSub] at *)
   exact Nat.zero_le _
 · cbv at hi
   have hG : ∀ y : Ls, L zcg (.agg [.str (L Ls.n y), .int .u8 (L Pl.a (L Ls.pl y)), .int .u8 (L Pl.b (L Ls.pl y)), .int .u8 (L Pl.c (L Ls.pl y)), .int .u8 (L Pl.d (L Ls.pl y)), .int .u16 (L Pl.p (L Ls.pl y)), .lst 4 (L zbl (L Ls.rs y)) (fun i => rtC L (L (L zao (L Ls.rs y)) i))]) = y := by subst hL; exact fun y => (gK zct y _ rfl).2
   have hO : ∀ y : Ls, L zii (.agg [.str (L Ls.n y), .int .u8 (L Pl.a (L Ls.pl y)), .int .u8 (L Pl.b (L Ls.pl y)), .int .u8 (L Pl.c (L Ls.pl y)), .int .u8 (L Pl.d (L Ls.pl y)), .int .u16 (L Pl.p (L Ls.pl y)), .lst 4 (L zbl (L Ls.rs y)) (fun i => rtC L (L (L zao (L Ls.rs y)) i))]) := by subst hL; exact fun y => (gK zct y _ rfl).1
   (cbv; try simp only [syT, true_and, and_true])
   simp only [hG, hO, true_and]
   refine ⟨fun hlt => ⟨?_, ?_, ?_, ⟨i + 1, ?_⟩⟩, fun hge => ?_⟩
   · (subst hL; subst hQ; simp only [L2, L3, std] at *; try simp only [syS, reduceCtorEq, Int.reduceToNat, Int.reduceAdd, Int.reduceSub] at *)
     omega
   · (subst hL; subst hQ; simp only [L2, L3, std] at *; try simp only [syS, reduceCtorEq, Int.reduceToNat, Int.reduceAdd, Int.reduceSub] at *)
     exact ha _ (by rw [zc8, zas (V := lsV) (by have : zbl l = l.length := rfl; omega)]; exact List.getElem_mem _)
   · (subst hL; subst hQ; simp only [L2, L3, std] at *; try simp only [syS, reduceCtorEq, Int.reduceToNat, Int.reduceAdd, Int.reduceSub] at *)
     have : zbl l = l.length := rfl
     have : l.length <= 1000000 := hz
     omega
   · (cbv; try simp only [syT, true_and, and_true])
     try simp only [hG]
     (subst hL; subst hQ; simp only [L2, L3, std] at *; try simp only [syS, reduceCtorEq, Int.reduceToNat, Int.reduceAdd, Int.reduceSub] at *)
     have : zbl l = l.length := rfl
     have : l.length <= 1000000 := hz
     exact ⟨fun q j hq hj => zq1 (fun q => zjq (zc8 l q)) hq hj, by omega, by omega, by omega⟩
   · (subst hL; subst hQ; simp only [L2, L3, std] at *; try simp only [syS, reduceCtorEq, Int.reduceToNat, Int.reduceAdd, Int.reduceSub] at *)
     have : zbl l = l.length := rfl
     obtain ⟨k1, k2⟩ := zks (V := lsV) (val := zjq) (l := l) (n := i) (by omega)
     refine ⟨⟨k2, ?_⟩, zs3 ?_⟩
     · show List.length _ <= 1000000
       have k1 : rdL (.lst 4 i fun q j => cv1 std (zjq (zc8 l q)) j) = l.map zjq := k1
       rw [k1, List.length_map]; exact hz
     · exact (congrArg ze0 k1).symm
theorem zuh (ih : zay Tryz.prog (zsi 89 zij zia zzz zjx std)) : zay Tryz.prog (zkf 88 89 zlo zlj yms yfw std) := by
 intro xs p r h hp
 unfold zkf at h
 simp only at h
 split at h
 rotate_left
 · cases h
 rename_i x k
 cases hk : zat k 89 with
 | false => rw [hk] at h; cases h
 | true =>
 rw [hk] at h
 obtain rfl : k = 89 := of_decide_eq_true hk
 cases h
 obtain ⟨ho, hz, ha⟩ := hp
 refine zhf zd8 ho ?_
 have hz : zg3 (rdW clV x) := hz
 have ha : yap zzz (rdW clV x) := ha
 show zad _ _ _ (cvA std (zpy zjx (rdW clV x)))
 generalize rdW clV x = l at hz ha |-
 refine za8 (T := tt) (S := fun L => zam [zsi 89 zij zia zzz zjx L, zg2 L]) (lo := fun L => ykp L zd4 zjx l) (lb := noA) 5 (fn := Tryz.f88) (xs := fun L => [zke L l, .fn 89 [] []]) rfl rfl (by kernel_rfl) (by kernel_rfl) rfl zac
   (za2 ⟨ih, zch, trivial⟩) (by kernel_rfl) ?_
 intro L P' Q' hL hP hQ
 (cbv; try simp only [syT, true_and, and_true])
 refine ⟨⟨0, ?_⟩, fun i hi => ?_⟩
 · (cbv; try simp only [syT, true_and, and_true])
   (subst hL; subst hQ; simp only [L2, L3, std] at *; try simp only [syS, reduceCtorEq, Int.reduceToNat, Int.reduceAdd, Int.reduceSub] at *)
   exact Nat.zero_le _
 · cbv at hi
   have hG : ∀ y : Cl, L zia (.agg [.str (L Cl.n y), .lst 6 (L zbl (L Cl.es y)) (fun i => epC L (L (L zhm (L Cl.es y)) i))]) = y := by subst hL; exact fun y => (gK zd8 y _ rfl).2
   have hO : ∀ y : Cl, L zij (.agg [.str (L Cl.n y), .lst 6 (L zbl (L Cl.es y)) (fun i => epC L (L (L zhm (L Cl.es y)) i))]) := by subst hL; exact fun y => (gK zd8 y _ rfl).1
   (cbv; try simp only [syT, true_and, and_true])
   simp only [hG, hO, true_and]
   refine ⟨fun hlt => ⟨?_, ?_, ?_, ⟨i + 1, ?_⟩⟩, fun hge => ?_⟩
   · (subst hL; subst hQ; simp only [L2, L3, std] at *; try simp only [syS, reduceCtorEq, Int.reduceToNat, Int.reduceAdd, Int.reduceSub] at *)
     omega
   · (subst hL; subst hQ; simp only [L2, L3, std] at *; try simp only [syS, reduceCtorEq, Int.reduceToNat, Int.reduceAdd, Int.reduceSub] at *)
     exact ha _ (by rw [zd4, zas (V := clV) (by have : zbl l = l.length := rfl; omega)]; exact List.getElem_mem _)
   · (subst hL; subst hQ; simp only [L2, L3, std] at *; try simp only [syS, reduceCtorEq, Int.reduceToNat, Int.reduceAdd, Int.reduceSub] at *)
     have : zbl l = l.length := rfl
     have : l.length <= 1000000 := hz
     omega
   · (cbv; try simp only [syT, true_and, and_true])
     try simp only [hG]
     (subst hL; subst hQ; simp only [L2, L3, std] at *; try simp only [syS, reduceCtorEq, Int.reduceToNat, Int.reduceAdd, Int.reduceSub] at *)
     have : zbl l = l.length := rfl
     have : l.length <= 1000000 := hz
     exact ⟨fun q j hq hj => zq1 (fun q => zjx (zd4 l q)) hq hj, by omega, by omega, by omega⟩
   · (subst hL; subst hQ; simp only [L2, L3, std] at *; try simp only [syS, reduceCtorEq, Int.reduceToNat, Int.reduceAdd, Int.reduceSub] at *)
     have : zbl l = l.length := rfl
     obtain ⟨k1, k2⟩ := zks (V := clV) (val := zjx) (l := l) (n := i) (by omega)
     refine ⟨⟨k2, ?_⟩, zs3 ?_⟩
     · show List.length _ <= 1000000
       have k1 : rdL (.lst 4 i fun q j => cv1 std (zjx (zd4 l q)) j) = l.map zjx := k1
       rw [k1, List.length_map]; exact hz
     · exact (congrArg ze0 k1).symm
end Sy
end Go.Proofs.YtogpolfhcbgcbaaGreatDoor
namespace Go.Proofs.YtogpolfhcbgcbaaGreatDoor
namespace Sy
open Go Go.RowKit
set_option maxRecDepth 100000
set_option linter.unusedSimpArgs false
set_option linter.unusedVariables false
def prS {α : Type} (f : Nat) (ok : AV -> Prop) (rd : AV -> α) (p : α -> Bool) (pre : α -> Prop) (L : zab) : zbb := (f, fun xs => match xs with
 | [x] => some (L ok x /\ L pre (L rd x), .bool (L p (L rd x)))
 | _ => none)
def yak {α : Type} (f g : Nat) (ok : AV -> Prop) (rd : AV -> List α) (idx : List α -> Int) (pre : List α -> Prop) (L : zab) : zbb := (f, fun xs => match xs with
 | [x, .fn k [] []] => match zat k g with
   | true => some (L ok x /\ L zg3 (L rd x) /\ L pre (L rd x), .int .i64 (L idx (L rd x)))
   | false => none
 | _ => none)
def yao {α : Type} (f g : Nat) (ok : AV -> Prop) (rd : AV -> List α) (any : List α -> Bool) (pre : List α -> Prop) (L : zab) : zbb := (f, fun xs => match xs with
 | [x, .fn k [] []] => match zat k g with
   | true => some (L ok x /\ L zg3 (L rd x) /\ L pre (L rd x), .bool (L any (L rd x)))
   | false => none
 | _ => none)
def ixA {α : Type} (L : zab) (none : List α -> Nat -> Prop) (l : List α) : Nat -> St -> Option Ann := fun id st => match id with
 | 0 => some ⟨Nat, fun i => [(8, .int .i64 (L za7 i))], fun i => [], [0, 1, 6, 7], [],
     fun i => L2 L none l i, fun i => L2 L (fun (l : List α) (i : Nat) => l.length - i) l i⟩
 | _ => Option.none
theorem zwr (a b : Int) : ile a b = decide (a <= b) := by simp [ile]
def zho (x : Ls) : Bool := decide (8 < x.rs.length)
def zjo (x : Cl) : Bool := decide (8 < x.es.length)
def ya2 (x : Ep) : Bool := decide (x.w < 0)
def yan (x : Cl) : Bool := x.es.any ya2
def zyr (x : Ls) : Prop := True
def zys (x : Cl) : Prop := True
def zyt (x : Ep) : Prop := True
def ztd (x : Cl) : Prop := zg3 x.es
theorem yot : zay Tryz.prog (prS 104 zii zcg zho zyr std) := by
 intro xs p r h hp
 dsimp only [prS] at h |-
 split at h <;> cases h
 try simp only [L2, L3, std] at hp |-
 rename_i x
 refine zsn zct hp.1 ?_
 have hp := hp.2
 show zad _ _ _ (.bool (zho (rdG lsV x)))
 have hp : zyr (rdG lsV x) := hp
 generalize rdG lsV x = y at hp |-
 refine za8 (T := tt) (S := noS) (lo := fun _ => noA std) (lb := noA) 5 (fn := Tryz.f104) (xs := fun L => [.agg [.str (L Ls.n y), .int .u8 (L Pl.a (L Ls.pl y)), .int .u8 (L Pl.b (L Ls.pl y)), .int .u8 (L Pl.c (L Ls.pl y)), .int .u8 (L Pl.d (L Ls.pl y)), .int .u16 (L Pl.p (L Ls.pl y)), yjd L (L Ls.rs y)]]) rfl rfl (by kernel_rfl) (by kernel_rfl) rfl zac (zc2 _) (by kernel_rfl) ?_
 intro L P' Q' hL hP hQ
 (cbv; try simp only [syT, true_and, and_true])
 (subst hL; subst hQ; simp only [L2, L3, std] at *; try simp only [syS, reduceCtorEq, Int.reduceToNat, Int.reduceAdd, Int.reduceSub] at *)
 show ilt 8 ((y.rs.length : Nat) : Int) = _
 simp only [ilt, zho]
 congr 1
 simp
 omega
theorem yov : zay Tryz.prog (prS 106 zij zia zjo zys std) := by
 intro xs p r h hp
 dsimp only [prS] at h |-
 split at h <;> cases h
 try simp only [L2, L3, std] at hp |-
 rename_i x
 refine zsn zd8 hp.1 ?_
 have hp := hp.2
 show zad _ _ _ (.bool (zjo (rdG clV x)))
 have hp : zys (rdG clV x) := hp
 generalize rdG clV x = y at hp |-
 refine za8 (T := tt) (S := noS) (lo := fun _ => noA std) (lb := noA) 5 (fn := Tryz.f106) (xs := fun L => [.agg [.str (L Cl.n y), ztr L (L Cl.es y)]]) rfl rfl (by kernel_rfl) (by kernel_rfl) rfl zac (zc2 _) (by kernel_rfl) ?_
 intro L P' Q' hL hP hQ
 (cbv; try simp only [syT, true_and, and_true])
 (subst hL; subst hQ; simp only [L2, L3, std] at *; try simp only [syS, reduceCtorEq, Int.reduceToNat, Int.reduceAdd, Int.reduceSub] at *)
 show ilt 8 ((y.es.length : Nat) : Int) = _
 simp only [ilt, zjo]
 congr 1
 simp
 omega
theorem yre : zay Tryz.prog (prS 109 zp5 zoy ya2 zyt std) := by
 intro xs p r h hp
 dsimp only [prS] at h |-
 split at h <;> cases h
 try simp only [L2, L3, std] at hp |-
 rename_i x
 refine zsn zfb hp.1 ?_
 have hp := hp.2
 show zad _ _ _ (.bool (ya2 (rdG epV x)))
 have hp : zyt (rdG epV x) := hp
 generalize rdG epV x = y at hp |-
 refine za8 (T := tt) (S := noS) (lo := fun _ => noA std) (lb := noA) 5 (fn := Tryz.f109) (xs := fun L => [.agg [.int .u8 (L Pl.a (L Ep.pl y)), .int .u8 (L Pl.b (L Ep.pl y)), .int .u8 (L Pl.c (L Ep.pl y)), .int .u8 (L Pl.d (L Ep.pl y)), .int .u16 (L Pl.p (L Ep.pl y)), .int .i64 (L Ep.w y)]]) rfl rfl (by kernel_rfl) (by kernel_rfl) rfl zac (zc2 _) (by kernel_rfl) ?_
 intro L P' Q' hL hP hQ
 (cbv; try simp only [syT, true_and, and_true])
 (subst hL; subst hQ; simp only [L2, L3, std] at *; try simp only [syS, reduceCtorEq, Int.reduceToNat, Int.reduceAdd, Int.reduceSub] at *)
 simp [ilt, ya2]
def yu7 (l : List Ls) : Int := zh5 zho l
def yl8 (l : List Ls) : Bool := l.any zho
def ytk (l : List Ls) (i : Nat) : Prop := zmv zho l i
def znh (l : List Ls) : Prop := yap zyr l
theorem zzh (ih : zay Tryz.prog (prS 104 zii zcg zho zyr std)) : zay Tryz.prog (yak 130 104 ztk zt4 yu7 znh std) := by
 intro xs p r h hp
 unfold yak at h
 simp only at h
 split at h
 rotate_left
 · cases h
 rename_i x k
 cases hk : zat k 104 with
 | false => rw [hk] at h; cases h
 | true =>
 rw [hk] at h
 obtain rfl : k = 104 := of_decide_eq_true hk
 cases h
 obtain ⟨ho, hz, ha⟩ := hp
 refine zhf zct ho ?_
 have hz : zg3 (rdW lsV x) := hz
 have ha : znh (rdW lsV x) := ha
 show zad _ _ _ (.int .i64 (zh5 zho (rdW lsV x)))
 generalize rdW lsV x = l at hz ha |-
 refine za8 (T := tt) (S := fun L => zam [prS 104 zii zcg zho zyr L]) (lo := fun L => ixA L ytk l) (lb := noA) 5 (fn := Tryz.f130) (xs := fun L => [zmz L l, .fn 104 [] []]) rfl rfl (by kernel_rfl) (by kernel_rfl) rfl zac
   (za2 ⟨ih, trivial⟩) (by kernel_rfl) ?_
 intro L P' Q' hL hP hQ
 (cbv; try simp only [syT, true_and, and_true])
 refine ⟨⟨0, ?_⟩, fun i hi => ?_⟩
 · (cbv; try simp only [syT, true_and, and_true])
   (subst hL; subst hQ; simp only [L2, L3, std] at *; try simp only [syS, reduceCtorEq, Int.reduceToNat, Int.reduceAdd, Int.reduceSub] at *)
   exact zlr _ _
 · cbv at hi
   have hG : ∀ y : Ls, L zcg (.agg [.str (L Ls.n y), .int .u8 (L Pl.a (L Ls.pl y)), .int .u8 (L Pl.b (L Ls.pl y)), .int .u8 (L Pl.c (L Ls.pl y)), .int .u8 (L Pl.d (L Ls.pl y)), .int .u16 (L Pl.p (L Ls.pl y)), .lst 4 (L zbl (L Ls.rs y)) (fun i => rtC L (L (L zao (L Ls.rs y)) i))]) = y := by subst hL; exact fun y => (gK zct y _ rfl).2
   have hO : ∀ y : Ls, L zii (.agg [.str (L Ls.n y), .int .u8 (L Pl.a (L Ls.pl y)), .int .u8 (L Pl.b (L Ls.pl y)), .int .u8 (L Pl.c (L Ls.pl y)), .int .u8 (L Pl.d (L Ls.pl y)), .int .u16 (L Pl.p (L Ls.pl y)), .lst 4 (L zbl (L Ls.rs y)) (fun i => rtC L (L (L zao (L Ls.rs y)) i))]) := by subst hL; exact fun y => (gK zct y _ rfl).1
   (cbv; try simp only [syT, true_and, and_true])
   simp only [hG, hO, true_and]
   have hw : zbl l = l.length := rfl
   have hz : l.length <= 1000000 := hz
   refine ⟨fun hlt => ⟨?_, ?_, fun hb => ?_, fun hb => ⟨i + 1, ?_⟩⟩, fun hge => ?_⟩
   · (subst hL; subst hQ; simp only [L2, L3, std] at *; try simp only [syS, reduceCtorEq, Int.reduceToNat, Int.reduceAdd, Int.reduceSub] at *)
     omega
   · (subst hL; subst hQ; simp only [L2, L3, std] at *; try simp only [syS, reduceCtorEq, Int.reduceToNat, Int.reduceAdd, Int.reduceSub] at *)
     exact ha _ (by rw [zc8, zas (V := lsV) (by omega)]; exact List.getElem_mem _)
   · (subst hL; subst hQ; simp only [L2, L3, std] at *; try simp only [syS, reduceCtorEq, Int.reduceToNat, Int.reduceAdd, Int.reduceSub] at *)
     exact (zgg (V := lsV) hi (by omega) hb).symm
   · (cbv; try simp only [syT, true_and, and_true])
     try simp only [hG]
     (subst hL; subst hQ; simp only [L2, L3, std] at *; try simp only [syS, reduceCtorEq, Int.reduceToNat, Int.reduceAdd, Int.reduceSub] at *)
     exact ⟨by omega, zf6 (V := lsV) hi (by omega) hb, by omega⟩
   · (subst hL; subst hQ; simp only [L2, L3, std] at *; try simp only [syS, reduceCtorEq, Int.reduceToNat, Int.reduceAdd, Int.reduceSub] at *)
     exact (zgh hi (by omega)).symm
theorem yac (ih : zay Tryz.prog (prS 104 zii zcg zho zyr std)) : zay Tryz.prog (yao 103 104 ztk zt4 yl8 znh std) := by
 intro xs p r h hp
 unfold yao at h
 simp only at h
 split at h
 rotate_left
 · cases h
 rename_i x k
 cases hk : zat k 104 with
 | false => rw [hk] at h; cases h
 | true =>
 rw [hk] at h
 obtain rfl : k = 104 := of_decide_eq_true hk
 cases h
 obtain ⟨ho, hz, ha⟩ := hp
 refine zhf zct ho ?_
 have hz : zg3 (rdW lsV x) := hz
 have ha : znh (rdW lsV x) := ha
 show zad _ _ _ (.bool (yl8 (rdW lsV x)))
 generalize rdW lsV x = l at hz ha |-
 refine za8 (T := tt) (S := fun L => zam [yak 130 104 ztk zt4 yu7 znh L]) (lo := fun _ => noA std) (lb := noA) 5 (fn := Tryz.f103) (xs := fun L => [zmz L l, .fn 104 [] []]) rfl rfl (by kernel_rfl) (by kernel_rfl) rfl zac
   (za2 ⟨zzh ih, trivial⟩) (by kernel_rfl) ?_
 intro L P' Q' hL hP hQ
 (cbv; try simp only [syT, true_and, and_true])
 (subst hL; subst hQ; simp only [L2, L3, std] at *; try simp only [syS, reduceCtorEq, Int.reduceToNat, Int.reduceAdd, Int.reduceSub] at *)
 simp only [ynz]
 refine ⟨⟨yok _, hz, ha⟩, ?_⟩
 have := zh4 zho l
 rw [zwr, show yl8 l = l.any zho from rfl, <- this]; rfl
def yu8 (l : List Cl) : Int := zh5 zjo l
def yl9 (l : List Cl) : Bool := l.any zjo
def ytl (l : List Cl) (i : Nat) : Prop := zmv zjo l i
def zni (l : List Cl) : Prop := yap zys l
theorem zzi (ih : zay Tryz.prog (prS 106 zij zia zjo zys std)) : zay Tryz.prog (yak 131 106 zlo zlj yu8 zni std) := by
 intro xs p r h hp
 unfold yak at h
 simp only at h
 split at h
 rotate_left
 · cases h
 rename_i x k
 cases hk : zat k 106 with
 | false => rw [hk] at h; cases h
 | true =>
 rw [hk] at h
 obtain rfl : k = 106 := of_decide_eq_true hk
 cases h
 obtain ⟨ho, hz, ha⟩ := hp
 refine zhf zd8 ho ?_
 have hz : zg3 (rdW clV x) := hz
 have ha : zni (rdW clV x) := ha
 show zad _ _ _ (.int .i64 (zh5 zjo (rdW clV x)))
 generalize rdW clV x = l at hz ha |-
 refine za8 (T := tt) (S := fun L => zam [prS 106 zij zia zjo zys L]) (lo := fun L => ixA L ytl l) (lb := noA) 5 (fn := Tryz.f131) (xs := fun L => [zke L l, .fn 106 [] []]) rfl rfl (by kernel_rfl) (by kernel_rfl) rfl zac
   (za2 ⟨ih, trivial⟩) (by kernel_rfl) ?_
 intro L P' Q' hL hP hQ
 (cbv; try simp only [syT, true_and, and_true])
 refine ⟨⟨0, ?_⟩, fun i hi => ?_⟩
 · (cbv; try simp only [syT, true_and, and_true])
   (subst hL; subst hQ; simp only [L2, L3, std] at *; try simp only [syS, reduceCtorEq, Int.reduceToNat, Int.reduceAdd, Int.reduceSub] at *)
   exact zlr _ _
 · cbv at hi
   have hG : ∀ y : Cl, L zia (.agg [.str (L Cl.n y), .lst 6 (L zbl (L Cl.es y)) (fun i => epC L (L (L zhm (L Cl.es y)) i))]) = y := by subst hL; exact fun y => (gK zd8 y _ rfl).2
   have hO : ∀ y : Cl, L zij (.agg [.str (L Cl.n y), .lst 6 (L zbl (L Cl.es y)) (fun i => epC L (L (L zhm (L Cl.es y)) i))]) := by subst hL; exact fun y => (gK zd8 y _ rfl).1
   (cbv; try simp only [syT, true_and, and_true])
   simp only [hG, hO, true_and]
   have hw : zbl l = l.length := rfl
   have hz : l.length <= 1000000 := hz
   refine ⟨fun hlt => ⟨?_, ?_, fun hb => ?_, fun hb => ⟨i + 1, ?_⟩⟩, fun hge => ?_⟩
   · (subst hL; subst hQ; simp only [L2, L3, std] at *; try simp only [syS, reduceCtorEq, Int.reduceToNat, Int.reduceAdd, Int.reduceSub] at *)
     omega
   · (subst hL; subst hQ; simp only [L2, L3, std] at *; try simp only [syS, reduceCtorEq, Int.reduceToNat, Int.reduceAdd, Int.reduceSub] at *)
     exact ha _ (by rw [zd4, zas (V := clV) (by omega)]; exact List.getElem_mem _)
   · (subst hL; subst hQ; simp only [L2, L3, std] at *; try simp only [syS, reduceCtorEq, Int.reduceToNat, Int.reduceAdd, Int.reduceSub] at *)
     exact (zgg (V := clV) hi (by omega) hb).symm
   · (cbv; try simp only [syT, true_and, and_true])
     try simp only [hG]
     (subst hL; subst hQ; simp only [L2, L3, std] at *; try simp only [syS, reduceCtorEq, Int.reduceToNat, Int.reduceAdd, Int.reduceSub] at *)
     exact ⟨by omega, zf6 (V := clV) hi (by omega) hb, by omega⟩
   · (subst hL; subst hQ; simp only [L2, L3, std] at *; try simp only [syS, reduceCtorEq, Int.reduceToNat, Int.reduceAdd, Int.reduceSub] at *)
     exact (zgh hi (by omega)).symm
theorem yad (ih : zay Tryz.prog (prS 106 zij zia zjo zys std)) : zay Tryz.prog (yao 105 106 zlo zlj yl9 zni std) := by
 intro xs p r h hp
 unfold yao at h
 simp only at h
 split at h
 rotate_left
 · cases h
 rename_i x k
 cases hk : zat k 106 with
 | false => rw [hk] at h; cases h
 | true =>
 rw [hk] at h
 obtain rfl : k = 106 := of_decide_eq_true hk
 cases h
 obtain ⟨ho, hz, ha⟩ := hp
 refine zhf zd8 ho ?_
 have hz : zg3 (rdW clV x) := hz
 have ha : zni (rdW clV x) := ha
 show zad _ _ _ (.bool (yl9 (rdW clV x)))
 generalize rdW clV x = l at hz ha |-
 refine za8 (T := tt) (S := fun L => zam [yak 131 106 zlo zlj yu8 zni L]) (lo := fun _ => noA std) (lb := noA) 5 (fn := Tryz.f105) (xs := fun L => [zke L l, .fn 106 [] []]) rfl rfl (by kernel_rfl) (by kernel_rfl) rfl zac
   (za2 ⟨zzi ih, trivial⟩) (by kernel_rfl) ?_
 intro L P' Q' hL hP hQ
 (cbv; try simp only [syT, true_and, and_true])
 (subst hL; subst hQ; simp only [L2, L3, std] at *; try simp only [syS, reduceCtorEq, Int.reduceToNat, Int.reduceAdd, Int.reduceSub] at *)
 simp only [yct]
 refine ⟨⟨ydh _, hz, ha⟩, ?_⟩
 have := zh4 zjo l
 rw [zwr, show yl9 l = l.any zjo from rfl, <- this]; rfl
def yu9 (l : List Ep) : Int := zh5 ya2 l
def yla (l : List Ep) : Bool := l.any ya2
def ytm (l : List Ep) (i : Nat) : Prop := zmv ya2 l i
def znj (l : List Ep) : Prop := yap zyt l
theorem zzj (ih : zay Tryz.prog (prS 109 zp5 zoy ya2 zyt std)) : zay Tryz.prog (yak 132 109 ztl zt6 yu9 znj std) := by
 intro xs p r h hp
 unfold yak at h
 simp only at h
 split at h
 rotate_left
 · cases h
 rename_i x k
 cases hk : zat k 109 with
 | false => rw [hk] at h; cases h
 | true =>
 rw [hk] at h
 obtain rfl : k = 109 := of_decide_eq_true hk
 cases h
 obtain ⟨ho, hz, ha⟩ := hp
 refine zhf zfb ho ?_
 have hz : zg3 (rdW epV x) := hz
 have ha : znj (rdW epV x) := ha
 show zad _ _ _ (.int .i64 (zh5 ya2 (rdW epV x)))
 generalize rdW epV x = l at hz ha |-
 refine za8 (T := tt) (S := fun L => zam [prS 109 zp5 zoy ya2 zyt L]) (lo := fun L => ixA L ytm l) (lb := noA) 5 (fn := Tryz.f132) (xs := fun L => [ztr L l, .fn 109 [] []]) rfl rfl (by kernel_rfl) (by kernel_rfl) rfl zac
   (za2 ⟨ih, trivial⟩) (by kernel_rfl) ?_
 intro L P' Q' hL hP hQ
 (cbv; try simp only [syT, true_and, and_true])
 refine ⟨⟨0, ?_⟩, fun i hi => ?_⟩
 · (cbv; try simp only [syT, true_and, and_true])
   (subst hL; subst hQ; simp only [L2, L3, std] at *; try simp only [syS, reduceCtorEq, Int.reduceToNat, Int.reduceAdd, Int.reduceSub] at *)
   exact zlr _ _
 · cbv at hi
   have hG : ∀ y : Ep, L zoy (.agg [.int .u8 (L Pl.a (L Ep.pl y)), .int .u8 (L Pl.b (L Ep.pl y)), .int .u8 (L Pl.c (L Ep.pl y)), .int .u8 (L Pl.d (L Ep.pl y)), .int .u16 (L Pl.p (L Ep.pl y)), .int .i64 (L Ep.w y)]) = y := by subst hL; exact fun y => (gK zfb y _ rfl).2
   have hO : ∀ y : Ep, L zp5 (.agg [.int .u8 (L Pl.a (L Ep.pl y)), .int .u8 (L Pl.b (L Ep.pl y)), .int .u8 (L Pl.c (L Ep.pl y)), .int .u8 (L Pl.d (L Ep.pl y)), .int .u16 (L Pl.p (L Ep.pl y)), .int .i64 (L Ep.w y)]) := by subst hL; exact fun y => (gK zfb y _ rfl).1
   (cbv; try simp only [syT, true_and, and_true])
   simp only [hG, hO, true_and]
   have hw : zbl l = l.length := rfl
   have hz : l.length <= 1000000 := hz
   refine ⟨fun hlt => ⟨?_, ?_, fun hb => ?_, fun hb => ⟨i + 1, ?_⟩⟩, fun hge => ?_⟩
   · (subst hL; subst hQ; simp only [L2, L3, std] at *; try simp only [syS, reduceCtorEq, Int.reduceToNat, Int.reduceAdd, Int.reduceSub] at *)
     omega
   · (subst hL; subst hQ; simp only [L2, L3, std] at *; try simp only [syS, reduceCtorEq, Int.reduceToNat, Int.reduceAdd, Int.reduceSub] at *)
     exact ha _ (by rw [zhm, zas (V := epV) (by omega)]; exact List.getElem_mem _)
   · (subst hL; subst hQ; simp only [L2, L3, std] at *; try simp only [syS, reduceCtorEq, Int.reduceToNat, Int.reduceAdd, Int.reduceSub] at *)
     exact (zgg (V := epV) hi (by omega) hb).symm
   · (cbv; try simp only [syT, true_and, and_true])
     try simp only [hG]
     (subst hL; subst hQ; simp only [L2, L3, std] at *; try simp only [syS, reduceCtorEq, Int.reduceToNat, Int.reduceAdd, Int.reduceSub] at *)
     exact ⟨by omega, zf6 (V := epV) hi (by omega) hb, by omega⟩
   · (subst hL; subst hQ; simp only [L2, L3, std] at *; try simp only [syS, reduceCtorEq, Int.reduceToNat, Int.reduceAdd, Int.reduceSub] at *)
     exact (zgh hi (by omega)).symm
theorem yae (ih : zay Tryz.prog (prS 109 zp5 zoy ya2 zyt std)) : zay Tryz.prog (yao 108 109 ztl zt6 yla znj std) := by
 intro xs p r h hp
 unfold yao at h
 simp only at h
 split at h
 rotate_left
 · cases h
 rename_i x k
 cases hk : zat k 109 with
 | false => rw [hk] at h; cases h
 | true =>
 rw [hk] at h
 obtain rfl : k = 109 := of_decide_eq_true hk
 cases h
 obtain ⟨ho, hz, ha⟩ := hp
 refine zhf zfb ho ?_
 have hz : zg3 (rdW epV x) := hz
 have ha : znj (rdW epV x) := ha
 show zad _ _ _ (.bool (yla (rdW epV x)))
 generalize rdW epV x = l at hz ha |-
 refine za8 (T := tt) (S := fun L => zam [yak 132 109 ztl zt6 yu9 znj L]) (lo := fun _ => noA std) (lb := noA) 5 (fn := Tryz.f108) (xs := fun L => [ztr L l, .fn 109 [] []]) rfl rfl (by kernel_rfl) (by kernel_rfl) rfl zac
   (za2 ⟨zzj ih, trivial⟩) (by kernel_rfl) ?_
 intro L P' Q' hL hP hQ
 (cbv; try simp only [syT, true_and, and_true])
 (subst hL; subst hQ; simp only [L2, L3, std] at *; try simp only [syS, reduceCtorEq, Int.reduceToNat, Int.reduceAdd, Int.reduceSub] at *)
 simp only [yo0]
 refine ⟨⟨yol _, hz, ha⟩, ?_⟩
 have := zh4 ya2 l
 rw [zwr, show yla l = l.any ya2 from rfl, <- this]; rfl
theorem yrf : zay Tryz.prog (prS 107 zij zia yan ztd std) := by
 intro xs p r h hp
 dsimp only [prS] at h |-
 split at h <;> cases h
 try simp only [L2, L3, std] at hp |-
 rename_i x
 refine zsn zd8 hp.1 ?_
 have hp := hp.2
 show zad _ _ _ (.bool (yan (rdG clV x)))
 have hp : ztd (rdG clV x) := hp
 generalize rdG clV x = y at hp |-
 refine za8 (T := tt) (S := fun L => zam [yao 108 109 ztl zt6 yla znj L]) (lo := fun _ => noA std) (lb := noA) 5 (fn := Tryz.f107) (xs := fun L => [.agg [.str (L Cl.n y), ztr L (L Cl.es y)]]) rfl rfl (by kernel_rfl) (by kernel_rfl) rfl zac (za2 ⟨yae yre, trivial⟩) (by kernel_rfl) ?_
 intro L P' Q' hL hP hQ
 (cbv; try simp only [syT, true_and, and_true])
 (subst hL; subst hQ; simp only [L2, L3, std] at *; try simp only [syS, reduceCtorEq, Int.reduceToNat, Int.reduceAdd, Int.reduceSub] at *)
 simp only [yo0]
 exact ⟨⟨yol _, hp, fun _ _ => trivial⟩, rfl⟩
def yua (l : List Cl) : Int := zh5 yan l
def ylb (l : List Cl) : Bool := l.any yan
def ytn (l : List Cl) (i : Nat) : Prop := zmv yan l i
def znk (l : List Cl) : Prop := yap ztd l
theorem zzk (ih : zay Tryz.prog (prS 107 zij zia yan ztd std)) : zay Tryz.prog (yak 131 107 zlo zlj yua znk std) := by
 intro xs p r h hp
 unfold yak at h
 simp only at h
 split at h
 rotate_left
 · cases h
 rename_i x k
 cases hk : zat k 107 with
 | false => rw [hk] at h; cases h
 | true =>
 rw [hk] at h
 obtain rfl : k = 107 := of_decide_eq_true hk
 cases h
 obtain ⟨ho, hz, ha⟩ := hp
 refine zhf zd8 ho ?_
 have hz : zg3 (rdW clV x) := hz
 have ha : znk (rdW clV x) := ha
 show zad _ _ _ (.int .i64 (zh5 yan (rdW clV x)))
 generalize rdW clV x = l at hz ha |-
 refine za8 (T := tt) (S := fun L => zam [prS 107 zij zia yan ztd L]) (lo := fun L => ixA L ytn l) (lb := noA) 5 (fn := Tryz.f131) (xs := fun L => [zke L l, .fn 107 [] []]) rfl rfl (by kernel_rfl) (by kernel_rfl) rfl zac
   (za2 ⟨ih, trivial⟩) (by kernel_rfl) ?_
 intro L P' Q' hL hP hQ
 (cbv; try simp only [syT, true_and, and_true])
 refine ⟨⟨0, ?_⟩, fun i hi => ?_⟩
 · (cbv; try simp only [syT, true_and, and_true])
   (subst hL; subst hQ; simp only [L2, L3, std] at *; try simp only [syS, reduceCtorEq, Int.reduceToNat, Int.reduceAdd, Int.reduceSub] at *)
   exact zlr _ _
 · cbv at hi
   have hG : ∀ y : Cl, L zia (.agg [.str (L Cl.n y), .lst 6 (L zbl (L Cl.es y)) (fun i => epC L (L (L zhm (L Cl.es y)) i))]) = y := by subst hL; exact fun y => (gK zd8 y _ rfl).2
   have hO : ∀ y : Cl, L zij (.agg [.str (L Cl.n y), .lst 6 (L zbl (L Cl.es y)) (fun i => epC L (L (L zhm (L Cl.es y)) i))]) := by subst hL; exact fun y => (gK zd8 y _ rfl).1
   (cbv; try simp only [syT, true_and, and_true])
   simp only [hG, hO, true_and]
   have hw : zbl l = l.length := rfl
   have hz : l.length <= 1000000 := hz
   refine ⟨fun hlt => ⟨?_, ?_, fun hb => ?_, fun hb => ⟨i + 1, ?_⟩⟩, fun hge => ?_⟩
   · (subst hL; subst hQ; simp only [L2, L3, std] at *; try simp only [syS, reduceCtorEq, Int.reduceToNat, Int.reduceAdd, Int.reduceSub] at *)
     omega
   · (subst hL; subst hQ; simp only [L2, L3, std] at *; try simp only [syS, reduceCtorEq, Int.reduceToNat, Int.reduceAdd, Int.reduceSub] at *)
     exact ha _ (by rw [zd4, zas (V := clV) (by omega)]; exact List.getElem_mem _)
   · (subst hL; subst hQ; simp only [L2, L3, std] at *; try simp only [syS, reduceCtorEq, Int.reduceToNat, Int.reduceAdd, Int.reduceSub] at *)
     exact (zgg (V := clV) hi (by omega) hb).symm
   · (cbv; try simp only [syT, true_and, and_true])
     try simp only [hG]
     (subst hL; subst hQ; simp only [L2, L3, std] at *; try simp only [syS, reduceCtorEq, Int.reduceToNat, Int.reduceAdd, Int.reduceSub] at *)
     exact ⟨by omega, zf6 (V := clV) hi (by omega) hb, by omega⟩
   · (subst hL; subst hQ; simp only [L2, L3, std] at *; try simp only [syS, reduceCtorEq, Int.reduceToNat, Int.reduceAdd, Int.reduceSub] at *)
     exact (zgh hi (by omega)).symm
theorem yaf (ih : zay Tryz.prog (prS 107 zij zia yan ztd std)) : zay Tryz.prog (yao 105 107 zlo zlj ylb znk std) := by
 intro xs p r h hp
 unfold yao at h
 simp only at h
 split at h
 rotate_left
 · cases h
 rename_i x k
 cases hk : zat k 107 with
 | false => rw [hk] at h; cases h
 | true =>
 rw [hk] at h
 obtain rfl : k = 107 := of_decide_eq_true hk
 cases h
 obtain ⟨ho, hz, ha⟩ := hp
 refine zhf zd8 ho ?_
 have hz : zg3 (rdW clV x) := hz
 have ha : znk (rdW clV x) := ha
 show zad _ _ _ (.bool (ylb (rdW clV x)))
 generalize rdW clV x = l at hz ha |-
 refine za8 (T := tt) (S := fun L => zam [yak 131 107 zlo zlj yua znk L]) (lo := fun _ => noA std) (lb := noA) 5 (fn := Tryz.f105) (xs := fun L => [zke L l, .fn 107 [] []]) rfl rfl (by kernel_rfl) (by kernel_rfl) rfl zac
   (za2 ⟨zzk ih, trivial⟩) (by kernel_rfl) ?_
 intro L P' Q' hL hP hQ
 (cbv; try simp only [syT, true_and, and_true])
 (subst hL; subst hQ; simp only [L2, L3, std] at *; try simp only [syS, reduceCtorEq, Int.reduceToNat, Int.reduceAdd, Int.reduceSub] at *)
 simp only [yct]
 refine ⟨⟨ydh _, hz, ha⟩, ?_⟩
 have := zh4 yan l
 rw [zwr, show ylb l = l.any yan from rfl, <- this]; rfl
end Sy
end Go.Proofs.YtogpolfhcbgcbaaGreatDoor
namespace Go.Proofs.YtogpolfhcbgcbaaGreatDoor
namespace Sy
open Go Go.RowKit
set_option maxRecDepth 100000
set_option linter.unusedSimpArgs false
set_option linter.unusedVariables false
structure zv2 (v : CV) (a b : Nat) : Prop where
 wf : wfV v
 sz : sizeC v <= a
 tx : (zby v).length <= b
theorem zv2.up {v : CV} {a b a' b' : Nat} (h : zv2 v a b) (ha : a <= a') (hb : b <= b') : zv2 v a' b' := ⟨h.wf, by have := h.sz; omega, by have := h.tx; omega⟩
theorem zua {n : Int} (h : zcy n) : zv2 (zhd n) 1 11 := by
 refine ⟨?_, ?_, ?_⟩
 · rw [zhd, wfV, zv3]; exact ⟨h, by decide, trivial⟩
 · rw [zhd, zcx, zcs]; omega
 · rw [zhd, zar, if_pos rfl, List.length_append]
   have := zjf h
   have e : (zgt 1).length = 1 := rfl
   omega
theorem zhv {s : List UInt8} {m : Nat} (h : s.length <= m) (hm : m <= 1000000) : zv2 (zkh s) 1 (11 + m) := by
 refine ⟨?_, ?_, ?_⟩
 · rw [zkh, wfV, zv3]; exact ⟨⟨by decide, by decide⟩, by omega, trivial⟩
 · rw [zkh, zcx, zcs]; omega
 · rw [zkh, zar, if_neg (by decide), if_pos rfl, List.length_append, List.length_append]
   have := zjf (n := (s.length : Int)) ⟨by omega, by omega⟩
   have e : (zgt 2).length = 1 := rfl
   omega
theorem yme {a b : Nat} : ∀ {l : List CV}, (∀ v ∈ l, zv2 v a b) -> zv3 l /\ sizeCs l <= l.length * a /\ (zb2 l).length <= l.length * b
 | [], _ => by rw [zv3, zcs, zb2]; exact ⟨trivial, by simp, by simp⟩
 | v :: l, h => by
   obtain ⟨i1, i2, i3⟩ := yme (l := l) fun w hw => h w (by simp [hw])
   have hv := h v (by simp)
   have h2 := hv.sz
   have h3 := hv.tx
   rw [zv3, zbp, zb2, List.length_append, List.length_cons, Nat.succ_mul, Nat.succ_mul]
   exact ⟨⟨hv.wf, i1⟩, by omega, by omega⟩
theorem zjw {l : List CV} {a b : Nat} (m : Nat) (h : ∀ v ∈ l, zv2 v a b) (hl : l.length <= m) (hm : m <= 1000) : zv2 (ze0 l) (m * a + 1) (11 + m * b) := by
 obtain ⟨i1, i2, i3⟩ := yme h
 have e1 := Nat.mul_le_mul_right a hl
 have e2 := Nat.mul_le_mul_right b hl
 refine ⟨?_, ?_, ?_⟩
 · rw [ze0, wfV]; exact ⟨⟨by decide, by decide⟩, by decide, i1⟩
 · rw [ze0, zcx]; omega
 · rw [ze0, zar, if_neg (by decide), if_neg (by decide), List.length_append, List.length_append]
   have := zjf (n := (l.length : Int)) ⟨by omega, by omega⟩
   have e : (zgt 3).length = 1 := rfl
   omega
def ye3 (x : Rt) : Bool := decide (x.h.length <= 300) && decide (x.p.length <= 300) && decide (x.c.length <= 300)
def zwe (x : Ls) : Bool := decide (x.n.length <= 300) && decide (x.rs.length <= 12) && x.rs.all ye3
def zwg (x : Cl) : Bool := decide (x.n.length <= 300) && decide (x.es.length <= 12)
def zwf (x : Cf) : Bool := decide (x.ls.length <= 12) && decide (x.cs.length <= 12) && x.ls.all zwe && x.cs.all zwg
def wfRt (x : Rt) : Prop := zcy x.i
def wfEp (x : Ep) : Prop := yaj x.pl /\ -9223372036854775808 <= x.w /\ x.w <= 9223372036854775807
def ysa (x : Ls) : Prop := yaj x.pl /\ ∀ r ∈ x.rs, wfRt r
def wfCl (x : Cl) : Prop := ∀ e ∈ x.es, wfEp e
def wfCf (x : Cf) : Prop := zcy x.v /\ (∀ l ∈ x.ls, ysa l) /\ ∀ c ∈ x.cs, wfCl c
def zuo (x : Cf) : CV := ze0 [zhd x.v, ye1 x.ls, yfw x.cs]
theorem yd5 (x : Pl) : (plB x).length = 6 := rfl
theorem yui {x : Rt} (hl : ye3 x = true) (hw : wfRt x) : zv2 (zi9 x) 5 1255 := by
 simp only [ye3, Bool.and_eq_true, decide_eq_true_eq] at hl
 refine zjw (a := 1) (b := 311) 4 (fun v hv => ?_) (Nat.le_of_ble_eq_true rfl) (by decide)
 simp only [List.mem_cons, List.not_mem_nil, or_false] at hv
 rcases hv with rfl | rfl | rfl | rfl
 · exact zhv hl.1.1 (by omega)
 · exact zhv hl.1.2 (by omega)
 · exact zhv hl.2 (by omega)
 · exact (zua hw).up (by omega) (by omega)
theorem zkp {α : Type} {val : α -> CV} {l : List α} {a b : Nat} (m : Nat) (h : ∀ x ∈ l, zv2 (val x) a b) (hl : l.length <= m) (hm : m <= 1000) : zv2 (zpy val l) (m * a + 1) (11 + m * b) :=
 zjw m (fun v hv => by obtain ⟨x, hx, rfl⟩ := List.mem_map.1 hv; exact h x hx) (by simpa using hl) hm
theorem yuj {x : Ep} (hw : wfEp x) : zv2 (zix x) 3 45 := by
 refine zjw (a := 1) (b := 17) 2 (fun v hv => ?_) (Nat.le_of_ble_eq_true rfl) (by decide)
 simp only [List.mem_cons, List.not_mem_nil, or_false] at hv
 rcases hv with rfl | rfl
 · exact zhv (m := 6) (Nat.le_of_eq (yd5 _)) (by omega)
 · exact (zua ⟨by omega, by omega⟩).up (by omega) (by omega)
theorem ypy {x : Ls} (hl : zwe x = true) (hw : ysa x) : zv2 (zjq x) 184 45224 := by
 simp only [zwe, Bool.and_eq_true, decide_eq_true_eq, List.all_eq_true] at hl
 refine zjw (a := 61) (b := 15071) 3 (fun v hv => ?_) (Nat.le_of_ble_eq_true rfl) (by decide)
 simp only [List.mem_cons, List.not_mem_nil, or_false] at hv
 rcases hv with rfl | rfl | rfl
 · exact (zhv hl.1.1 (by omega)).up (by omega) (by omega)
 · exact (zhv (m := 6) (Nat.le_of_eq (yd5 _)) (by omega)).up (by omega) (by omega)
 · exact (zkp (a := 5) (b := 1255) 12 (fun r hr => yui (hl.2 r hr) (hw.2 r hr)) hl.1.2 (by omega)).up (by omega) (by omega)
theorem yuk {x : Cl} (hl : zwg x = true) (hw : wfCl x) : zv2 (zjx x) 75 1113 := by
 simp only [zwg, Bool.and_eq_true, decide_eq_true_eq] at hl
 refine zjw (a := 37) (b := 551) 2 (fun v hv => ?_) (Nat.le_of_ble_eq_true rfl) (by decide)
 simp only [List.mem_cons, List.not_mem_nil, or_false] at hv
 rcases hv with rfl | rfl
 · exact (zhv hl.1 (by omega)).up (by omega) (by omega)
 · exact (zkp (a := 3) (b := 45) 12 (fun e he => yuj (hw e he)) hl.2 (by omega)).up (by omega) (by omega)
theorem yul {x : Cf} (hl : zwf x = true) (hw : wfCf x) : zv2 (zuo x) 7000 2000000 := by
 simp only [zwf, Bool.and_eq_true, decide_eq_true_eq, List.all_eq_true] at hl
 refine (zjw (a := 2209) (b := 542699) 3 (fun v hv => ?_) (Nat.le_of_ble_eq_true rfl) (by decide)).up (by decide) (by decide)
 simp only [List.mem_cons, List.not_mem_nil, or_false] at hv
 rcases hv with rfl | rfl | rfl
 · exact (zua hw.1).up (by omega) (by omega)
 · exact (zkp (a := 184) (b := 45224) 12 (fun r hr => ypy (hl.1.2 r hr) (hw.2.1 r hr)) hl.1.1.1 (by omega)).up (by omega) (by omega)
 · exact (zkp (a := 75) (b := 1113) 12 (fun r hr => yuk (hl.2 r hr) (hw.2.2 r hr)) hl.1.1.2 (by omega)).up (by omega) (by omega)
def ztp (x : Cf) : Bool := decide (8 < x.ls.length \/ 8 < x.cs.length) || x.ls.any zho || x.cs.any zjo
def ywd (x : Cf) : Bool := x.cs.any yan
def cfE (x : Cf) : Int := if ztp x = true then 6 else if ywd x = true then 7 else ztb (zuo x)
def cfT (x : Cf) : List UInt8 := if cfE x = 0 then zyo (zuo x) else []
end Sy
end Go.Proofs.YtogpolfhcbgcbaaGreatDoor
namespace Go.Proofs.YtogpolfhcbgcbaaGreatDoor
namespace Sy
open Go Go.RowKit
set_option maxRecDepth 100000
set_option linter.unusedSimpArgs false
set_option linter.unusedVariables false
theorem lit3 (a b c : CV) : rdL (.lst 4 3 fun i j => zbn .dead [.int .i64 a.kd, .int .u64 a.nn, .str a.tx, .lst 4 (zmr a) (zku a), .int .i64 b.kd, .int .u64 b.nn, .str b.tx, .lst 4 (zmr b) (zku b), .int .i64 c.kd, .int .u64 c.nn, .str c.tx, .lst 4 (zmr c) (zku c)] (i * 4 + j)) = [a, b, c] := (zmi [a, b, c] (n := 3) rfl rfl).1
theorem yox (a b c : CV) : okL (.lst 4 3 fun i j => zbn .dead [.int .i64 a.kd, .int .u64 a.nn, .str a.tx, .lst 4 (zmr a) (zku a), .int .i64 b.kd, .int .u64 b.nn, .str b.tx, .lst 4 (zmr b) (zku b), .int .i64 c.kd, .int .u64 c.nn, .str c.tx, .lst 4 (zmr c) (zku c)] (i * 4 + j)) := (zmi [a, b, c] (n := 3) rfl rfl).2
def ytw (n : Nat) (x : Cf) : Prop := x.ls.length <= n /\ x.cs.length <= n
def yoe (x : Cf) : Prop := ytw 1000000 x
def yof (x : Cf) : Prop := zg3 x.cs /\ ∀ c ∈ x.cs, ztd c
theorem zz6 : zay Tryz.prog (prS 81 zp6 zfm ztp yoe std) := by
 intro xs p r h hp
 dsimp only [prS] at h |-
 split at h <;> cases h
 try simp only [L2, L3, std] at hp |-
 rename_i x
 refine zsn zoa hp.1 ?_
 have hp := hp.2
 show zad _ _ _ (.bool (ztp (rdG cfV x)))
 have hp : yoe (rdG cfV x) := hp
 generalize rdG cfV x = y at hp |-
 refine za8 (T := tt) (S := fun L => zam [yao 103 104 ztk zt4 yl8 znh L, yao 105 106 zlo zlj yl9 zni L]) (lo := fun _ => noA std) (lb := noA) 5 (fn := Tryz.f81) (xs := fun L => [.agg [.int .u64 (L Cf.v y), zmz L (L Cf.ls y), zke L (L Cf.cs y)]]) rfl rfl (by kernel_rfl) (by kernel_rfl) rfl zac (za2 ⟨yac yot, yad yov, trivial⟩) (by kernel_rfl) ?_
 intro L P' Q' hL hP hQ
 (cbv; try simp only [syT, true_and, and_true])
 (subst hL; subst hQ; simp only [L2, L3, std] at *; try simp only [syS, reduceCtorEq, Int.reduceToNat, Int.reduceAdd, Int.reduceSub] at *)
 simp only [ynz, yct]
 have e1 : zbl y.ls = y.ls.length := rfl
 have e2 : zbl y.cs = y.cs.length := rfl
 refine ⟨fun h => ?_, fun h => ⟨⟨yok _, hp.1, fun _ _ => trivial⟩, fun h2 => ?_, fun h2 => ⟨⟨ydh _, hp.2, fun _ _ => trivial⟩, ?_⟩⟩⟩
 · unfold ztp; rw [decide_eq_true (by omega)]; rfl
 · unfold ztp; rw [show y.ls.any zho = true from h2]; simp
 · unfold ztp; rw [show y.ls.any zho = false from h2, decide_eq_false (by omega)]; simp; rfl
theorem ygm : zay Tryz.prog (prS 82 zp6 zfm ywd yof std) := by
 intro xs p r h hp
 dsimp only [prS] at h |-
 split at h <;> cases h
 try simp only [L2, L3, std] at hp |-
 rename_i x
 refine zsn zoa hp.1 ?_
 have hp := hp.2
 show zad _ _ _ (.bool (ywd (rdG cfV x)))
 have hp : yof (rdG cfV x) := hp
 generalize rdG cfV x = y at hp |-
 refine za8 (T := tt) (S := fun L => zam [yao 105 107 zlo zlj ylb znk L]) (lo := fun _ => noA std) (lb := noA) 5 (fn := Tryz.f82) (xs := fun L => [.agg [.int .u64 (L Cf.v y), zmz L (L Cf.ls y), zke L (L Cf.cs y)]]) rfl rfl (by kernel_rfl) (by kernel_rfl) rfl zac (za2 ⟨yaf yrf, trivial⟩) (by kernel_rfl) ?_
 intro L P' Q' hL hP hQ
 (cbv; try simp only [syT, true_and, and_true])
 (subst hL; subst hQ; simp only [L2, L3, std] at *; try simp only [syS, reduceCtorEq, Int.reduceToNat, Int.reduceAdd, Int.reduceSub] at *)
 simp only [yct]
 exact ⟨⟨ydh _, hp.1, hp.2⟩, rfl⟩
def ygj (x : Cf) : Prop := zwf x = true /\ wfCf x
def yr9 (L : zab) : zbb := (65, fun xs => match xs with
 | [x] => some (L zp6 x /\ L ygj (L zfm x), .tup [.str (L cfT (L zfm x)), .int .i64 (L cfE (L zfm x))])
 | _ => none)
theorem yl4 : zay Tryz.prog (yr9 std) := by
 intro xs p r h hp
 dsimp only [yr9] at h |-
 split at h <;> cases h
 try simp only [L2, L3, std] at hp |-
 rename_i x
 refine zsn zoa hp.1 ?_
 have hp := hp.2
 show zad _ _ _ (.tup [.str (cfT (rdG cfV x)), .int .i64 (cfE (rdG cfV x))])
 have hp : ygj (rdG cfV x) := hp
 generalize rdG cfV x = y at hp |-
 refine za8 (T := tt) (S := fun L => zam [prS 81 zp6 zfm ztp yoe L, prS 82 zp6 zfm ywd yof L, zyy L, zg2 L, zxb 7000 L, zkf 86 87 ztk zt4 ym8 ye1 L, zkf 88 89 zlo zlj yms yfw L]) (lo := fun _ => noA std) (lb := noA) 5 (fn := Tryz.f65) (xs := fun L => [.agg [.int .u64 (L Cf.v y), zmz L (L Cf.ls y), zke L (L Cf.cs y)]]) rfl rfl (by kernel_rfl) (by kernel_rfl) rfl zac (za2 ⟨zz6, ygm, zkk, zch, zo8 7000, zuf zpf, zuh zs4, trivial⟩) (by kernel_rfl) ?_
 intro L P' Q' hL hP hQ
 have hG : L zfm (.agg [.int .u64 (L Cf.v y), .lst 7 (L zbl (L Cf.ls y)) (fun i => lsC L (L (L zc8 (L Cf.ls y)) i)), .lst 2 (L zbl (L Cf.cs y)) (fun i => clC L (L (L zd4 (L Cf.cs y)) i))]) = y := by subst hL; exact (gK zoa y _ rfl).2
 have hO : L zp6 (.agg [.int .u64 (L Cf.v y), .lst 7 (L zbl (L Cf.ls y)) (fun i => lsC L (L (L zc8 (L Cf.ls y)) i)), .lst 2 (L zbl (L Cf.cs y)) (fun i => clC L (L (L zd4 (L Cf.cs y)) i))]) := by subst hL; exact (gK zoa y _ rfl).1
 (cbv; try simp only [syT, true_and, and_true])
 simp only [hG, hO, true_and]
 (subst hL; subst hQ; simp only [L2, L3, std] at *; try simp only [syS, reduceCtorEq, Int.reduceToNat, Int.reduceAdd, Int.reduceSub] at *)
 simp only [ynz, yct]
 simp only [lit3, zdw, zc4]
 obtain ⟨hl, hw⟩ := hp
 have hf := yul hl hw
 have hl' := hl
 simp only [zwf, Bool.and_eq_true, decide_eq_true_eq, List.all_eq_true, zwe, zwg] at hl'
 obtain ⟨⟨⟨l1, l2⟩, l3⟩, l4⟩ := hl'
 have sz1 : ∀ {α : Type} {l : List α} (n : Nat), n <= 12 -> l.length <= n -> zg3 l := fun n hn hl => by show _ <= 1000000; omega
 refine ⟨⟨by omega, by omega⟩, fun h => ?_, fun h => ⟨⟨sz1 12 (by omega) l2, fun c hc => sz1 12 (by omega) (l4 c hc).2⟩, fun h2 => ?_, fun h2 => ⟨⟨yok _, sz1 12 (by omega) l1, fun x hx => ⟨(hw.2.1 x hx).1, sz1 12 (by omega) (l3 x hx).1.2⟩⟩, ⟨ydh _, sz1 12 (by omega) l2, fun c hc => ⟨sz1 12 (by omega) (l4 c hc).2, fun e he => (hw.2.2 c hc e he).1⟩⟩, ⟨yox _ _ _, by show (3 : Nat) <= 1000000; omega⟩, ⟨(zlh _).2, ⟨hf.sz, by omega⟩, hf.wf, ?_⟩, ?_⟩⟩⟩
 · have e : cfE y = 6 := by unfold cfE; rw [if_pos h]
   exact ⟨by rw [cfT, if_neg (by rw [e]; decide)], e.symm⟩
 · have e : cfE y = 7 := by unfold cfE; rw [if_neg (by rw [h]; decide), if_pos h2]
   exact ⟨by rw [cfT, if_neg (by rw [e]; decide)], e.symm⟩
 · have := hf.tx
   show (zby (zuo y)).length <= 90000000
   omega
 · have e : cfE y = ztb (zuo y) := by unfold cfE; rw [if_neg (by rw [h]; decide), if_neg (by rw [h2]; decide)]
   refine ⟨?_, e.symm⟩
   show zyo (zuo y) = cfT y
   unfold cfT
   rw [e]
   split
   · rfl
   · rename_i h3
     unfold zyo; rw [if_neg h3]
def yrq {α : Type} (l : List α) (i : Nat) : Nat := l.length - i
def goLs (l : List Ls) (i : Nat) : Nat := yrq l i
def goRt (l : List Rt) (i : Nat) : Nat := yrq l i
def goCl (l : List Cl) (i : Nat) : Nat := yrq l i
end Sy
end Go.Proofs.YtogpolfhcbgcbaaGreatDoor
namespace Go.Proofs.YtogpolfhcbgcbaaGreatDoor
namespace Sy
open Go Go.RowKit
set_option maxRecDepth 100000
set_option linter.unusedSimpArgs false
set_option linter.unusedVariables false
def yjl (x : Cf) : Prop := zg3 x.ls /\ zg3 x.cs /\ (∀ l ∈ x.ls, zg3 l.rs) /\ ∀ c ∈ x.cs, zg3 c.es
def leW {α : Type} (l : List α) (i : Nat) : Prop := i <= l.length
def leLs (l : List Ls) (i : Nat) : Prop := leW l i
def leRt (l : List Rt) (i : Nat) : Prop := leW l i
def leCl (l : List Cl) (i : Nat) : Prop := leW l i
def leEp (l : List Ep) (i : Nat) : Prop := leW l i
def goEq (l : List Ep) (i : Nat) : Nat := yrq l i
def ywm (L : zab) : zbb := (14, fun xs => match xs with
 | [x] => some (L zp6 x /\ L yjl (L zfm x), .agg [.int .u64 (L Cf.v (L zfm x)), zmz L (L Cf.ls (L zfm x)), zke L (L Cf.cs (L zfm x))])
 | _ => none)
def cfTo (L : zab) (y : Cf) : Nat -> St -> Option Ann := fun id st => match id with
 | 0 => some ⟨Nat, fun i => [(20, .int .i64 (L za7 i)), (3, .ref 3 0)], fun i => [(3, .box 50 [.int .u64 (L Cf.v y), .sl 901 7 0 i, .nils]), (901, .row 46 7 i (fun q => lsC L (L (L zc8 (L Cf.ls y)) q)))], [1, 2, 18, 19], [1, 2], fun i => L2 L leLs (L Cf.ls y) i, fun i => L2 L goLs (L Cf.ls y) i⟩
 | 2 => zom st 20 fun k => some ⟨Nat, fun j => [(32, .int .i64 (L za7 j)), (6, .ref 6 0)],
     fun j => [(6, .box 46 [.str (L Ls.n (L2 L zc8 (L Cf.ls y) (L Int.toNat k))), plC L (L Ls.pl (L2 L zc8 (L Cf.ls y) (L Int.toNat k))) 0, plC L (L Ls.pl (L2 L zc8 (L Cf.ls y) (L Int.toNat k))) 1, plC L (L Ls.pl (L2 L zc8 (L Cf.ls y) (L Int.toNat k))) 2, plC L (L Ls.pl (L2 L zc8 (L Cf.ls y) (L Int.toNat k))) 3, plC L (L Ls.pl (L2 L zc8 (L Cf.ls y) (L Int.toNat k))) 4, .sl 902 4 0 j]),
       (902, .row 59 4 j (fun q => rtC L (L (L zao (L Ls.rs (L2 L zc8 (L Cf.ls y) (L Int.toNat k)))) q)))], [1, 2, 3, 18, 19, 20, 30, 31], [1, 2, 3, 901], fun j => L2 L leRt (L Ls.rs (L2 L zc8 (L Cf.ls y) (L Int.toNat k))) j, fun j => L2 L goRt (L Ls.rs (L2 L zc8 (L Cf.ls y) (L Int.toNat k))) j⟩
 | 4 => some ⟨Nat, fun i => [(53, .int .i64 (L za7 i)), (3, .ref 3 0)], fun i => [(3, .box 50 [.int .u64 (L Cf.v y), .sl 905 7 0 (L zbl (L Cf.ls y)), .sl 903 2 0 i]), (905, .row 46 7 (L zbl (L Cf.ls y)) (fun q => lsC L (L (L zc8 (L Cf.ls y)) q))), (903, .row 82 2 i (fun q => clC L (L (L zd4 (L Cf.cs y)) q)))], [2, 51, 52], [2], fun i => L2 L leCl (L Cf.cs y) i, fun i => L2 L goCl (L Cf.cs y) i⟩
 | 6 => zom st 53 fun k => some ⟨Nat, fun j => [(63, .int .i64 (L za7 j)), (11, .ref 11 0)],
     fun j => [(11, .box 82 [.str (L Cl.n (L2 L zd4 (L Cf.cs y) (L Int.toNat k))), .sl 904 6 0 j]),
       (904, .row 86 6 j (fun q => epC L (L (L zhm (L Cl.es (L2 L zd4 (L Cf.cs y) (L Int.toNat k)))) q)))], [2, 3, 51, 52, 53, 61, 62], [2, 3, 903, 905], fun j => L2 L leEp (L Cl.es (L2 L zd4 (L Cf.cs y) (L Int.toNat k))) j, fun j => L2 L goEq (L Cl.es (L2 L zd4 (L Cf.cs y) (L Int.toNat k))) j⟩
 | _ => none
theorem yb7 {y : Cf} (hp : yjl y) {i : Nat} (hi : i < y.ls.length) : (zc8 y.ls i).rs.length <= 1000000 := hp.2.2.1 _ (by rw [zc8, zas (V := lsV) hi]; exact List.getElem_mem _)
theorem yb8 {y : Cf} (hp : yjl y) {i : Nat} (hi : i < y.cs.length) : (zd4 y.cs i).es.length <= 1000000 := hp.2.2.2 _ (by rw [zd4, zas (V := clV) hi]; exact List.getElem_mem _)
theorem yn6 : zay Tryz.prog (ywm std) := by
 intro xs p r h hp
 dsimp only [ywm] at h |-
 split at h <;> cases h
 try simp only [L2, L3, std] at hp |-
 rename_i x
 obtain ⟨ho, hp⟩ := hp
 refine zsn zoa ho ?_
 have hp : yjl (zfm x) := hp
 show zad _ _ [.agg [.int .u64 (zfm x).v, zmz std (zfm x).ls, zke std (zfm x).cs]] _
 generalize zfm x = y at hp |-
 refine za8 (T := tt) (S := noS) (lo := fun L => cfTo L y) (lb := noA) 5 (fn := Tryz.f14) (xs := fun L => [.agg [.int .u64 (L Cf.v y), zmz L (L Cf.ls y), zke L (L Cf.cs y)]]) rfl rfl (by kernel_rfl) (by kernel_rfl) rfl zac (zc2 _) (by kernel_rfl) ?_
 intro L P' Q' hL hP hQ
 (cbv; try simp only [syT, true_and, and_true])
 refine ⟨⟨0, ?_⟩, fun i hi => ?_⟩
 · (cbv; try simp only [syT, true_and, and_true])
   (subst hL; subst hQ; simp only [L2, L3, std] at *; try simp only [syS, reduceCtorEq, Int.reduceToNat, Int.reduceAdd, Int.reduceSub] at *)
   exact Nat.zero_le _
 · cbv at hi
   (cbv; try simp only [syT, true_and, and_true])
   have e1 : zbl y.ls = y.ls.length := rfl
   have e2 : zbl y.cs = y.cs.length := rfl
   refine ⟨fun hlt => ⟨?_, ⟨⟨0, ?_⟩, fun j hj => ?_⟩⟩, fun hge => ⟨⟨0, ?_⟩, fun k hk => ?_⟩⟩
   · (subst hL; subst hQ; simp only [L2, L3, std] at *; try simp only [syS, reduceCtorEq, Int.reduceToNat, Int.reduceAdd, Int.reduceSub] at *)
     omega
   · (cbv; try simp only [syT, true_and, and_true])
     (subst hL; subst hQ; simp only [L2, L3, std] at *; try simp only [syS, reduceCtorEq, Int.reduceToNat, Int.reduceAdd, Int.reduceSub] at *)
     exact Nat.zero_le _
   · cbv at hj
     (cbv; try simp only [syT, true_and, and_true])
     have e3 : ∀ z : Ls, zbl z.rs = z.rs.length := fun _ => rfl
     refine ⟨fun hlt2 => ⟨?_, ?_, ⟨j + 1, ?_⟩⟩, fun hge2 => ⟨?_, ⟨i + 1, ?_⟩⟩⟩
     · (subst hL; subst hQ; simp only [L2, L3, std] at *; try simp only [syS, reduceCtorEq, Int.reduceToNat, Int.reduceAdd, Int.reduceSub] at *)
       omega
     · (subst hL; subst hQ; simp only [L2, L3, std] at *; try simp only [syS, reduceCtorEq, Int.reduceToNat, Int.reduceAdd, Int.reduceSub] at *)
       have e4 := e3 (zc8 y.ls i)
       have hm := yb7 hp (i := i) (by omega)
       omega
     · (cbv; try simp only [syT, true_and, and_true])
       (subst hL; subst hQ; simp only [L2, L3, std] at *; try simp only [syS, reduceCtorEq, Int.reduceToNat, Int.reduceAdd, Int.reduceSub] at *)
       have e4 := e3 (zc8 y.ls i)
       have hm := yb7 hp (i := i) (by omega)
       refine ⟨fun a b ha hb => ?_, by omega, ?_, ?_⟩
       · by_cases h : a < j
         · rw [zhw h]
           match b, hb with
           | 0, _ => rfl
           | 1, _ => rfl
           | 2, _ => rfl
           | 3, _ => rfl
         · obtain rfl : a = j := by omega
           rw [zjy (by omega)]
           match b, hb with
           | 0, _ => rfl
           | 1, _ => rfl
           | 2, _ => rfl
           | 3, _ => rfl
       · show j + 1 <= (zc8 y.ls i).rs.length
         omega
       · show (zc8 y.ls i).rs.length - (j + 1) + 1 <= (zc8 y.ls i).rs.length - j
         omega
     · (subst hL; subst hQ; simp only [L2, L3, std] at *; try simp only [syS, reduceCtorEq, Int.reduceToNat, Int.reduceAdd, Int.reduceSub] at *)
       have hm := hp.1
       unfold zg3 at hm
       omega
     · (cbv; try simp only [syT, true_and, and_true])
       (subst hL; subst hQ; simp only [L2, L3, std] at *; try simp only [syS, reduceCtorEq, Int.reduceToNat, Int.reduceAdd, Int.reduceSub] at *)
       have e4 := e3 (zc8 y.ls i)
       have hj' : j <= (zc8 y.ls i).rs.length := hj
       have hm := hp.1
       unfold zg3 at hm
       refine ⟨fun a b ha hb => ?_, by omega, ?_, ?_⟩
       · by_cases h : a < i
         · rw [zhw h, show a - i = 0 by omega, Nat.zero_mul, Nat.zero_add]
           match b, hb with
           | 0, _ => rfl
           | 1, _ => rfl
           | 2, _ => rfl
           | 3, _ => rfl
           | 4, _ => rfl
           | 5, _ => rfl
           | 6, _ => rfl
         · obtain rfl : a = i := by omega
           rw [zjy (by omega), Nat.sub_self, Nat.zero_mul, Nat.zero_add]
           match b, hb with
           | 0, _ => rfl
           | 1, _ => rfl
           | 2, _ => rfl
           | 3, _ => rfl
           | 4, _ => rfl
           | 5, _ => rfl
           | 6, _ =>
             show AV.lst 4 j _ = AV.lst 4 (zbl (zc8 y.ls a).rs) _
             rw [show j = zbl (zc8 y.ls a).rs by omega]
             rfl
       · show i + 1 <= y.ls.length
         omega
       · show y.ls.length - (i + 1) + 1 <= y.ls.length - i
         omega
   · (cbv; try simp only [syT, true_and, and_true])
     (subst hL; subst hQ; simp only [L2, L3, std] at *; try simp only [syS, reduceCtorEq, Int.reduceToNat, Int.reduceAdd, Int.reduceSub] at *)
     have hi' : i <= y.ls.length := hi
     exact ⟨by omega, by omega, Nat.zero_le _⟩
   · cbv at hk
     (cbv; try simp only [syT, true_and, and_true])
     have e3 : ∀ z : Cl, zbl z.es = z.es.length := fun _ => rfl
     refine ⟨fun hlt => ⟨?_, ⟨⟨0, ?_⟩, fun j hj => ?_⟩⟩, fun hge => ?_⟩
     · (subst hL; subst hQ; simp only [L2, L3, std] at *; try simp only [syS, reduceCtorEq, Int.reduceToNat, Int.reduceAdd, Int.reduceSub] at *)
       omega
     · (cbv; try simp only [syT, true_and, and_true])
       (subst hL; subst hQ; simp only [L2, L3, std] at *; try simp only [syS, reduceCtorEq, Int.reduceToNat, Int.reduceAdd, Int.reduceSub] at *)
       exact Nat.zero_le _
     · cbv at hj
       (cbv; try simp only [syT, true_and, and_true])
       refine ⟨fun hlt2 => ⟨?_, ?_, ⟨j + 1, ?_⟩⟩, fun hge2 => ⟨?_, ⟨k + 1, ?_⟩⟩⟩
       · (subst hL; subst hQ; simp only [L2, L3, std] at *; try simp only [syS, reduceCtorEq, Int.reduceToNat, Int.reduceAdd, Int.reduceSub] at *)
         omega
       · (subst hL; subst hQ; simp only [L2, L3, std] at *; try simp only [syS, reduceCtorEq, Int.reduceToNat, Int.reduceAdd, Int.reduceSub] at *)
         have e4 := e3 (zd4 y.cs k)
         have hm := yb8 hp (i := k) (by omega)
         omega
       · (cbv; try simp only [syT, true_and, and_true])
         (subst hL; subst hQ; simp only [L2, L3, std] at *; try simp only [syS, reduceCtorEq, Int.reduceToNat, Int.reduceAdd, Int.reduceSub] at *)
         have e4 := e3 (zd4 y.cs k)
         have hm := yb8 hp (i := k) (by omega)
         refine ⟨fun a b ha hb => ?_, by omega, ?_, ?_⟩
         · by_cases h : a < j
           · rw [zhw h, show a - j = 0 by omega, Nat.zero_mul, Nat.zero_add]
             match b, hb with
             | 0, _ => rfl
             | 1, _ => rfl
             | 2, _ => rfl
             | 3, _ => rfl
             | 4, _ => rfl
             | 5, _ => rfl
           · obtain rfl : a = j := by omega
             rw [zjy (by omega), Nat.sub_self, Nat.zero_mul, Nat.zero_add]
             match b, hb with
             | 0, _ => rfl
             | 1, _ => rfl
             | 2, _ => rfl
             | 3, _ => rfl
             | 4, _ => rfl
             | 5, _ => rfl
         · show j + 1 <= (zd4 y.cs k).es.length
           omega
         · show (zd4 y.cs k).es.length - (j + 1) + 1 <= (zd4 y.cs k).es.length - j
           omega
       · (subst hL; subst hQ; simp only [L2, L3, std] at *; try simp only [syS, reduceCtorEq, Int.reduceToNat, Int.reduceAdd, Int.reduceSub] at *)
         have hm := hp.2.1
         unfold zg3 at hm
         omega
       · (cbv; try simp only [syT, true_and, and_true])
         (subst hL; subst hQ; simp only [L2, L3, std] at *; try simp only [syS, reduceCtorEq, Int.reduceToNat, Int.reduceAdd, Int.reduceSub] at *)
         have e4 := e3 (zd4 y.cs k)
         have hj' : j <= (zd4 y.cs k).es.length := hj
         have hm := hp.2.1
         unfold zg3 at hm
         refine ⟨fun a b ha hb => ?_, by omega, ?_, ?_⟩
         · by_cases h : a < k
           · rw [zhw h, show a - k = 0 by omega, Nat.zero_mul, Nat.zero_add]
             match b, hb with
             | 0, _ => rfl
             | 1, _ => rfl
           · obtain rfl : a = k := by omega
             rw [zjy (by omega), Nat.sub_self, Nat.zero_mul, Nat.zero_add]
             match b, hb with
             | 0, _ => rfl
             | 1, _ =>
               show AV.lst 6 j _ = AV.lst 6 (zbl (zd4 y.cs a).es) _
               rw [show j = zbl (zd4 y.cs a).es by omega]
               rfl
         · show k + 1 <= y.cs.length
           omega
         · show y.cs.length - (k + 1) + 1 <= y.cs.length - k
           omega
     · (subst hL; subst hQ; simp only [L2, L3, std] at *; try simp only [syS, reduceCtorEq, Int.reduceToNat, Int.reduceAdd, Int.reduceSub] at *)
       have hk' : k <= y.cs.length := hk
       obtain rfl : k = zbl y.cs := by omega
       show fits1 (.agg [.lst 7 (zbl y.ls) (fun i => lsC std (zc8 y.ls i)), .lst 2 (zbl y.cs) (fun i => clC std (zd4 y.cs i))]) _
       rw [zfa, zfa]
       exact ⟨⟨rfl, fun _ _ _ _ => rfl⟩, ⟨rfl, fun _ _ _ _ => rfl⟩, trivial⟩
end Sy
end Go.Proofs.YtogpolfhcbgcbaaGreatDoor
namespace Go.Proofs.YtogpolfhcbgcbaaGreatDoor
namespace Sy
open Go Go.RowKit
set_option maxRecDepth 100000
set_option linter.unusedSimpArgs false
set_option linter.unusedVariables false
end Sy
end Go.Proofs.YtogpolfhcbgcbaaGreatDoor
namespace Go.Proofs.YtogpolfhcbgcbaaGreatDoor
namespace Sy
open Go Go.RowKit
set_option maxRecDepth 100000
set_option linter.unusedSimpArgs false
set_option linter.unusedVariables false
def zzu {α : Type} (V : Vw α) (a b : List α) (i : Nat) : Prop := a.length = b.length /\ i <= a.length /\ ∀ j, j < i -> zi0 V a j = zi0 V b j
theorem yff {α : Type} {V : Vw α} {a b : List α} (h : a.length = b.length) : zzu V a b 0 := ⟨h, Nat.zero_le _, fun j hj => by omega⟩
theorem zo5 {α : Type} {V : Vw α} {a b : List α} {i : Nat} (h : zzu V a b i) (hi : i < a.length) (e : zi0 V a i = zi0 V b i) : zzu V a b (i + 1) :=
 ⟨h.1, hi, fun j hj => by
   by_cases ej : j = i
   · rw [ej]; exact e
   · exact h.2.2 j (by omega)⟩
theorem zrz {α : Type} {V : Vw α} {a b : List α} {i : Nat} (h : zzu V a b i) (hi : a.length <= i) : a = b := by
 apply List.ext_getElem h.1
 intro j h1 h2
 have := h.2.2 j (by omega)
 rwa [zas h1, zas h2] at this
theorem zx5 {α : Type} {V : Vw α} {a b : List α} {i : Nat} (e : ¬ zi0 V a i = zi0 V b i) : ¬ a = b := fun h => e (by rw [h])
theorem yml {α : Type} {a b : List α} (h : ¬ a.length = b.length) : ¬ a = b := fun e => h (by rw [e])
def ys1 {α : Type} (f : Nat) (ok : AV -> Prop) (rd : AV -> List α) (p : List α -> List α -> Bool) (L : zab) : zbb := (f, fun xs => match xs with
 | [x, y] => some (L ok x /\ L ok y /\ L zg3 (L rd x), .bool (L2 L p (L rd x) (L rd y)))
 | _ => none)
def eqlA {α : Type} (L : zab) (inv : List α -> List α -> Nat -> Prop) (go : List α -> Nat -> Nat) (l m : List α) : Nat -> St -> Option Ann := fun id st => match id with
 | 0 => some ⟨Nat, fun i => [(13, .int .i64 (L za7 i))], fun i => [], [0, 1, 11, 12], [], fun i => L3 L inv l m i, fun i => L2 L go l i⟩
 | _ => none
end Sy
end Go.Proofs.YtogpolfhcbgcbaaGreatDoor
namespace Go.Proofs.YtogpolfhcbgcbaaGreatDoor
namespace Sy
open Go Go.RowKit
set_option maxRecDepth 100000
set_option linter.unusedSimpArgs false
set_option linter.unusedVariables false
def zry (a b : List Lbx) : Bool := decide (a = b)
def yux (a b : List Lbx) (i : Nat) : Prop := zzu sxV a b i
def zx4 (a b : Lbx) : Bool := decide (a = b)
def goLbx (l : List Lbx) (i : Nat) : Nat := yrq l i
theorem zuc : zay Tryz.prog (ys1 51 zih zd7 zry std) := by
 intro xs p r h hp
 dsimp only [ys1] at h |-
 split at h <;> cases h
 try simp only [L2, L3, std] at hp |-
 rename_i x y
 obtain ⟨ho, ho', hz⟩ := hp
 refine zhf zl1 ho (yvp zl1 ho' ?_)
 have hz : zg3 (rdW sxV x) := hz
 show zad _ _ _ (.bool (zry (rdW sxV x) (rdW sxV y)))
 generalize rdW sxV x = l at hz |-
 generalize rdW sxV y = m
 refine za8 (T := tt) (S := noS) (lo := fun L => eqlA L yux goLbx l m) (lb := noA) 5 (fn := Tryz.f51) (xs := fun L => [ym7 L l, ym7 L m]) rfl rfl (by kernel_rfl) (by kernel_rfl) rfl zac (zc2 _) (by kernel_rfl) ?_
 intro L P' Q' hL hP hQ
 have e1 : zbl l = l.length := rfl
 have e2 : zbl m = m.length := rfl
 have hz : l.length <= 1000000 := hz
 (cbv; try simp only [syT, true_and, and_true])
 refine ⟨fun hne => ?_, fun heq => ⟨⟨0, ?_⟩, fun i hi => ?_⟩⟩
 · (subst hL; subst hQ; simp only [L2, L3, std] at *; try simp only [syS, reduceCtorEq, Int.reduceToNat, Int.reduceAdd, Int.reduceSub] at *)
   exact (decide_eq_false (yml (by omega))).symm
 · (cbv; try simp only [syT, true_and, and_true])
   (subst hL; subst hQ; simp only [L2, L3, std] at *; try simp only [syS, reduceCtorEq, Int.reduceToNat, Int.reduceAdd, Int.reduceSub] at *)
   exact yff (by omega)
 · cbv at hi
   have hE : ∀ x y : Lbx, L2 L seq x y = zx4 x y := by
     subst hL
     intro x y
     rw [Bool.eq_iff_iff]
     simp [std, L2, zx4, seq]
   (cbv; try simp only [syT, true_and, and_true])
   simp only [hE]
   refine ⟨fun hlt => ⟨?_, ?_, fun hb => ?_, fun hb => ⟨i + 1, ?_⟩⟩, fun hge => ?_⟩
   · (subst hL; subst hQ; simp only [L2, L3, std] at *; try simp only [syS, reduceCtorEq, Int.reduceToNat, Int.reduceAdd, Int.reduceSub] at *)
     omega
   · (subst hL; subst hQ; simp only [L2, L3, std] at *; try simp only [syS, reduceCtorEq, Int.reduceToNat, Int.reduceAdd, Int.reduceSub] at *)
     omega
   · (subst hL; subst hQ; simp only [L2, L3, std] at *; try simp only [syS, reduceCtorEq, Int.reduceToNat, Int.reduceAdd, Int.reduceSub] at *)
     simp only [zx4, Bool.not_eq_true', decide_eq_false_iff_not] at hb
     exact (decide_eq_false (zx5 (V := sxV) (i := i) hb)).symm
   · (cbv; try simp only [syT, true_and, and_true])
     (subst hL; subst hQ; simp only [L2, L3, std] at *; try simp only [syS, reduceCtorEq, Int.reduceToNat, Int.reduceAdd, Int.reduceSub] at *)
     simp only [zx4, Bool.not_eq_false', decide_eq_true_eq] at hb
     refine ⟨by omega, zo5 hi (by omega) hb, ?_⟩
     show l.length - (i + 1) < l.length - i
     omega
   · (subst hL; subst hQ; simp only [L2, L3, std] at *; try simp only [syS, reduceCtorEq, Int.reduceToNat, Int.reduceAdd, Int.reduceSub] at *)
     exact (decide_eq_true (zrz hi (by omega))).symm
theorem zif (s : Lbx) : (za5 s).length <= s.length + 1 := by
 have h1 : (za5 s).length <= (za9 s zb3).length := List.length_filter_le _ _
 have h2 : (za9 s zb3).length = cntB s zb3 + 1 := zap (by1 zb3) s
 have := zo9 s zb3
 omega
theorem ylu (m : List Lbx) {k : Nat} (hk : k <= m.length) : zih (.lst 1 k fun i => sxC std (zaj m i)) /\ zd7 (.lst 1 k fun i => sxC std (zaj m i)) = m.take k := by
 refine ⟨⟨rfl, fun i hi => ⟨_, rfl⟩⟩, ?_⟩
 show (List.range k).map (fun i => zaj m i) = m.take k
 apply List.ext_getElem
 · simp [hk]
 · intro i h1 h2
   have hi : i < k := by simpa using h1
   simp only [List.getElem_map, List.getElem_range, List.getElem_take]
   exact zlp (by omega)
def zsj (a b : Lbx) : Bool := decide ((za5 a).length <= (za5 b).length) && decide (za5 a = (za5 b).take (za5 a).length)
def yhg (a b : Lbx) : Prop := a.length <= 900000 /\ b.length <= 900000
def yn2 (L : zab) : zbb := (29, fun xs => match xs with
 | [.str a, .str b] => some (L2 L yhg a b, .bool (L2 L zsj a b))
 | _ => none)
theorem yhf : zay Tryz.prog (yn2 std) := by
 intro xs p r h hp
 dsimp only [yn2] at h |-
 split at h <;> cases h
 try simp only [L2, L3, std] at hp |-
 rename_i a b
 obtain ⟨h1, h2⟩ : yhg a b := hp
 refine zaa (T := tt) (S := fun L => zam [yil L, ys1 51 zih zd7 zry L]) (lo := noA) (lb := noA) 5 (fn := Tryz.f29) rfl rfl (by kernel_rfl) (by kernel_rfl) rfl zac (za2 ⟨zvl, zuc, trivial⟩) (by kernel_rfl) ?_
 intro L P' Q' hL hP hQ
 (cbv; try simp only [syT, true_and, and_true])
 subst hL; subst hQ
 have e1 : (za5 a).length <= 1000000 := by have := zif a; omega
 obtain ⟨r1, r2⟩ := ylu (za5 a) (Nat.le_refl _)
 rw [List.take_length] at r2
 refine ⟨h1, h2, fun h => ?_, fun h => ?_⟩
 · have h : ile (za7 (za5 a).length) (za7 (za5 b).length) = true := h
   have hle : (za5 a).length <= (za5 b).length := by
     rw [yem, za1, za1] at h; omega
   obtain ⟨q1, q2⟩ := ylu (za5 b) hle
   refine ⟨?_, ⟨r1, q1, ?_⟩, ?_⟩
   · show inC (za7 (za5 a).length) (za7 (za5 b).length) = true
     rw [yjw, za1, za1]; omega
   · show zg3 (zd7 (.lst 1 (za5 a).length fun i => sxC std (zaj (za5 a) i)))
     rw [r2]; exact e1
   · rw [zah]
     show zry (zd7 (.lst 1 (za5 a).length fun i => sxC std (zaj (za5 a) i))) (zd7 (.lst 1 (za5 a).length fun i => sxC std (zaj (za5 b) i))) = zsj a b
     rw [r2, q2]
     unfold zsj zry
     rw [decide_eq_true hle, Bool.true_and]
 · have h : ile (za7 (za5 a).length) (za7 (za5 b).length) = false := h
   have hle : ¬ (za5 a).length <= (za5 b).length := by
     rw [yjx, za1, za1] at h; omega
   rw [zah]
   unfold zsj
   rw [decide_eq_false hle, Bool.false_and]
end Sy
end Go.Proofs.YtogpolfhcbgcbaaGreatDoor
namespace Go.Proofs.YtogpolfhcbgcbaaGreatDoor
namespace Sy
open Go Go.RowKit
set_option maxRecDepth 100000
set_option linter.unusedSimpArgs false
set_option linter.unusedVariables false
structure Mq where
 h : List UInt8
 p : List UInt8
 host : List UInt8
 path : List UInt8
def zil (L : zab) (h p host path : List UInt8) : Mq := L (L (L (L Mq.mk h) p) host) path
def zmy (q : Mq) : Prop := q.h.length <= 900000 /\ q.p.length <= 900000 /\ q.host.length <= 900000 /\ q.path.length <= 900000
noncomputable def mtB (q : Mq) : Bool := decide (zgd q.path = 0) && (zsm q.h q.host && zsj q.p q.path)
noncomputable def ydq (L : zab) : zbb := (11, fun xs => match xs with
 | [.agg [.str h, .str p, .str c, .int .u64 i], .str host, .str path] => some (L zmy (zil L h p host path), .bool (L mtB (zil L h p host path)))
 | _ => none)
theorem zpa : zay Tryz.prog (ydq std) := by
 intro xs p r h hp
 dsimp only [ydq] at h |-
 split at h <;> cases h
 try simp only [L2, L3, std] at hp |-
 rename_i h p c i host path
 obtain ⟨h1, h2, h3, h4⟩ : zmy ⟨h, p, host, path⟩ := hp
 have h1 : h.length <= 900000 := h1
 have h2 : p.length <= 900000 := h2
 have h3 : host.length <= 900000 := h3
 have h4 : path.length <= 900000 := h4
 refine zaa (T := tt) (S := fun L => zam [yd8 L, yl0 L, yn2 L]) (lo := noA) (lb := noA) 5 (fn := Tryz.f11) rfl rfl (by kernel_rfl) (by kernel_rfl) rfl zac (za2 ⟨yd9, zxc, yhf, trivial⟩) (by kernel_rfl) ?_
 intro L P' Q' hL hP hQ
 (cbv; try simp only [syT, true_and, and_true])
 subst hL; subst hQ
 have e : mtB (zil std h p host path) = (decide (zgd path = 0) && (zsm h host && zsj p path)) := rfl
 refine ⟨by show path.length <= 1000000000; omega, fun k => ⟨⟨by omega, by omega⟩, fun k2 => ⟨⟨h2, h4⟩, ?_⟩, fun k2 => ?_⟩, fun k => ?_⟩
 · have k : ieq (zgd path) 0 = true := k
   rw [zn2] at k
   have k2 : zsm h host = true := k2
   rw [zah, e, k2, decide_eq_true k]; rfl
 · have k2 : zsm h host = false := k2
   rw [zah, e, k2, Bool.false_and, Bool.and_false]
 · have k : ieq (zgd path) 0 = false := k
   rw [zzf] at k
   rw [zah, e, decide_eq_false k, Bool.false_and]
def rkA (h : List UInt8) : Int := 2 * (zq4 h [46] + 1) - (if zk6 h [42] = true then 1 else 0)
def rkB (p : List UInt8) : Int := (za5 p).length
noncomputable def rk1 (q : Mq) : Int := if mtB q = true then rkA q.h else 0
noncomputable def rk2 (q : Mq) : Int := if mtB q = true then rkB q.p else 0
noncomputable def ycm (L : zab) : zbb := (12, fun xs => match xs with
 | [.agg [.str h, .str p, .str c, .int .u64 i], .str host, .str path] => some (L zmy (zil L h p host path), .cpx .f64 (L fOf (L rk1 (zil L h p host path))) (L fOf (L rk2 (zil L h p host path))))
 | _ => none)
theorem zou : zay Tryz.prog (ycm std) := by
 intro xs p r h hp
 dsimp only [ycm] at h |-
 split at h <;> cases h
 try simp only [L2, L3, std] at hp |-
 rename_i h p c i host path
 obtain ⟨h1, h2, h3, h4⟩ : zmy ⟨h, p, host, path⟩ := hp
 have h1 : h.length <= 900000 := h1
 have h2 : p.length <= 900000 := h2
 refine zaa (T := tt) (S := fun L => zam [ydq L, yfv L, yio L, yil L, yip L]) (lo := noA) (lb := noA) 5 (fn := Tryz.f12) rfl rfl (by kernel_rfl) (by kernel_rfl) rfl zac (za2 ⟨zpa, zq3, zvm, zvl, zvo, trivial⟩) (by kernel_rfl) ?_
 intro L P' Q' hL hP hQ
 (cbv; try simp only [syT, true_and, and_true])
 subst hL; subst hQ
 obtain ⟨q, hq⟩ : ∃ q : Mq, q = zil std h p host path := ⟨_, rfl⟩
 have qh : q.h = h := by rw [hq]; rfl
 have qp : q.p = p := by rw [hq]; rfl
 rw [<- hq]
 have hc0 : 0 <= zq4 h [46] := Int.natCast_nonneg _
 have hc1 : zq4 h [46] <= 900000 := by
   have h1' : h.count (by1 [46]) <= h.length := List.count_le_length
   show ((h.count (by1 [46]) : Nat) : Int) <= 900000
   omega
 have hp1 := zif p
 have e1 : zsp .i64 2 (zfi .i64 (zq4 h [46]) 1) = 2 * (zq4 h [46] + 1) := by
   have e0 : zfi .i64 (zq4 h [46]) 1 = zq4 h [46] + 1 := by
     unfold zfi
     rw [zha]; omega
   rw [e0]
   unfold zsp
   rw [zha]; omega
 have e2 : zj7 .i64 (zsp .i64 2 (zfi .i64 (zq4 h [46]) 1)) 1 = 2 * (zq4 h [46] + 1) - 1 := by
   rw [e1]
   unfold zj7
   rw [zha]; omega
 refine ⟨?_, fun k => ?_, fun k => ⟨rfl, ?_, fun k2 => ⟨h2, ?_, ?_⟩, fun k2 => ⟨h2, ?_, ?_⟩⟩⟩
 · rw [hq]; exact ⟨h1, h2, h3, h4⟩
 · have k : (!(mtB q)) = true := k
   have k : mtB q = false := by simpa using k
   rw [zh6, rk1, rk2, k, if_neg (by decide), if_neg (by decide)]
   exact ⟨by decide, by decide⟩
 · show h.length <= 1000000000 /\ 1 <= 1000000000
   omega
 · show zvx (zj7 .i64 (zsp .i64 2 (zfi .i64 (zq4 h [46]) 1)) 1) (za7 (za5 p).length)
   rw [e2, za1]
   refine ⟨by omega, by omega, by omega, by omega⟩
 · have k : (!(mtB q)) = false := k
   have k : mtB q = true := by simpa using k
   have k2 : zk6 h [42] = true := k2
   rw [zh6]
   refine ⟨?_, ?_⟩
   · show fOf (za7 (za5 p).length) = fOf (rk2 q)
     rw [rk2, if_pos k, qp]; rfl
   · show fOf (zj7 .i64 (zsp .i64 2 (zfi .i64 (zq4 h [46]) 1)) 1) = fOf (rk1 q)
     rw [e2, rk1, if_pos k, qh, rkA, if_pos k2]
 · show zvx (zsp .i64 2 (zfi .i64 (zq4 h [46]) 1)) (za7 (za5 p).length)
   rw [e1, za1]
   refine ⟨by omega, by omega, by omega, by omega⟩
 · have k : (!(mtB q)) = false := k
   have k : mtB q = true := by simpa using k
   have k2 : zk6 h [42] = false := k2
   rw [zh6]
   refine ⟨?_, ?_⟩
   · show fOf (za7 (za5 p).length) = fOf (rk2 q)
     rw [rk2, if_pos k, qp]; rfl
   · show fOf (zsp .i64 2 (zfi .i64 (zq4 h [46]) 1)) = fOf (rk1 q)
     rw [e1, rk1, if_pos k, qh, rkA, if_neg (by rw [k2]; decide), Int.sub_zero]
end Sy
end Go.Proofs.YtogpolfhcbgcbaaGreatDoor
namespace Go.Proofs.YtogpolfhcbgcbaaGreatDoor
namespace Sy
open Go Go.RowKit
set_option maxRecDepth 100000
set_option linter.unusedSimpArgs false
set_option linter.unusedVariables false
structure Mb where
 rs : List Rt
 host : List UInt8
 path : List UInt8
def mbQ (c : Mb) (i : Nat) : Mq := ⟨(zao c.rs i).h, (zao c.rs i).p, c.host, c.path⟩
structure Bs where
 b : Int
 s : Bool
 x : Int
 y : Int
def zft (a b x y : Int) : Bool := decide (x < a) || (decide (a = x) && decide (y < b))
noncomputable def bsN (c : Mb) : Nat -> Bs
 | 0 => ⟨0, false, 0, 0⟩
 | i + 1 => if zft (rk1 (mbQ c i)) (rk2 (mbQ c i)) (bsN c i).x (bsN c i).y = true then ⟨i, true, rk1 (mbQ c i), rk2 (mbQ c i)⟩ else bsN c i
def ym4 (c : Mb) : Prop := c.rs.length <= 1000000 /\ c.host.length <= 900000 /\ c.path.length <= 900000 /\ ∀ r ∈ c.rs, r.h.length <= 900000 /\ r.p.length <= 900000
def bsInv (c : Mb) (i : Nat) : Prop := i <= c.rs.length
def bsMu (c : Mb) (i : Nat) : Nat := c.rs.length - i
noncomputable def bsA (L : zab) (c : Mb) : Nat -> St -> Option Ann := fun id st => match id with
 | 0 => some ⟨Nat, fun i => [(8, .int .i64 (L Bs.b (L2 L bsN c i))), (9, .bool (L Bs.s (L2 L bsN c i))), (10, .cpx .f64 (L fOf (L Bs.x (L2 L bsN c i))) (L fOf (L Bs.y (L2 L bsN c i)))), (11, .int .i64 (L za7 i))], fun i => [], [1, 2, 3], [3], fun i => L2 L bsInv c i, fun i => L2 L bsMu c i⟩
 | _ => none
noncomputable def bsB (c : Mb) : Int := (bsN c c.rs.length).b
noncomputable def bsS (c : Mb) : Bool := (bsN c c.rs.length).s
def ym5 (L : zab) (l : Ls) (host path : List UInt8) : Mb := L (L (L Mb.mk (L Ls.rs l)) host) path
noncomputable def yl5 (L : zab) : zbb := (9, fun xs => match xs with
 | [x, .str host, .str path] => some (L zii x /\ L ym4 (ym5 L (L zcg x) host path), .tup [.int .i64 (L bsB (ym5 L (L zcg x) host path)), .bool (L bsS (ym5 L (L zcg x) host path))])
 | _ => none)
def inM (a : Int) : Prop := 0 <= a /\ a <= 1099511627776
theorem zeg {a : Int} (h : inM a) : ∃ n : Nat, a = (n : Int) /\ n <= 2 ^ 40 := by
 obtain ⟨h1, h2⟩ := h
 refine ⟨a.toNat, by omega, ?_⟩
 have : (2 : Nat) ^ 40 = 1099511627776 := by decide
 omega
theorem zgn {a : Int} (h : inM a) : yrz (fOf a) := by
 obtain ⟨n, rfl, hn⟩ := zeg h
 exact ⟨n, hn, rfl⟩
theorem zt0 {q : Mq} (h : zmy q) : inM (rk1 q) /\ inM (rk2 q) := by
 obtain ⟨h1, h2, h3, h4⟩ := h
 have hc0 : 0 <= zq4 q.h [46] := Int.natCast_nonneg _
 have hc1 : zq4 q.h [46] <= 900000 := by
   have h1' : q.h.count (by1 [46]) <= q.h.length := List.count_le_length
   show ((q.h.count (by1 [46]) : Nat) : Int) <= 900000
   omega
 have hp := zif q.p
 unfold rk1 rk2 rkA rkB inM
 refine ⟨?_, ?_⟩
 · split
   · split <;> omega
   · omega
 · split <;> omega
theorem yge {a b x y : Int} (ha : inM a) (hb : inM b) (hx : inM x) (hy : inM y) : ilt 0 (ymt (fOf a) (fOf b) (fOf x) (fOf y)) = zft a b x y := by
 obtain ⟨a, rfl, na⟩ := zeg ha
 obtain ⟨b, rfl, nb⟩ := zeg hb
 obtain ⟨x, rfl, nx⟩ := zeg hx
 obtain ⟨y, rfl, ny⟩ := zeg hy
 have k : ∀ n : Nat, n <= 2 ^ 40 -> n < 2 ^ 53 := fun n h => Nat.lt_of_le_of_lt h (by decide)
 unfold ymt
 rw [zpv (k _ na) (k _ nx), zpv (k _ nb) (k _ ny)]
 unfold zft
 rcases Nat.lt_trichotomy a x with h | h | h
 · rw [if_pos h, if_neg (by decide : ¬ (-1 : Int) = 0), decide_eq_false (show ¬ ((x : Int) < a) by omega), decide_eq_false (show ¬ ((a : Int) = x) by omega)]
   rfl
 · subst h
   rw [if_neg (Nat.lt_irrefl _), if_neg (Nat.lt_irrefl _), if_pos rfl, decide_eq_false (show ¬ ((a : Int) < a) by omega), decide_eq_true (rfl : (a : Int) = a)]
   rcases Nat.lt_trichotomy b y with h2 | h2 | h2
   · rw [if_pos h2, decide_eq_false (show ¬ ((y : Int) < b) by omega)]; rfl
   · subst h2
     rw [if_neg (Nat.lt_irrefl _), if_neg (Nat.lt_irrefl _), decide_eq_false (show ¬ ((b : Int) < b) by omega)]; rfl
   · rw [if_neg (show ¬ b < y by omega), if_pos h2, decide_eq_true (show (y : Int) < b by omega)]; rfl
 · rw [if_neg (show ¬ a < x by omega), if_pos h, if_neg (by decide : ¬ (1 : Int) = 0), decide_eq_true (show (x : Int) < a by omega)]
   rfl
theorem yuq {a : Int} (ha : inM a) : fEq .f64 (fOf a) 0 = decide (a = 0) := by
 obtain ⟨a, rfl, na⟩ := zeg ha
 have := yfb (a := a) (b := 0) (Nat.lt_of_le_of_lt na (by decide : 2 ^ 40 < 2 ^ 53)) (by decide)
 rw [show fOf ((0 : Nat) : Int) = 0 by decide] at this
 rw [this]
 by_cases h : a = 0
 · rw [decide_eq_true h, decide_eq_true (by omega)]
 · rw [decide_eq_false h, decide_eq_false (by omega)]
theorem zk8 {c : Mb} (h : ym4 c) {i : Nat} (hi : i < c.rs.length) : zmy (mbQ c i) := by
 obtain ⟨h1, h2, h3, h4⟩ := h
 have e : zao c.rs i = c.rs[i] := zas hi
 obtain ⟨q1, q2⟩ := h4 _ (List.getElem_mem hi)
 rw [<- e] at q1 q2
 exact ⟨q1, q2, h2, h3⟩
theorem yvg {c : Mb} (h : ym4 c) : ∀ {i : Nat}, i <= c.rs.length -> inM (bsN c i).x /\ inM (bsN c i).y
 | 0, _ => by
   rw [bsN]
   exact ⟨⟨Int.le_refl _, by show (0 : Int) <= 1099511627776; decide⟩, ⟨Int.le_refl _, by show (0 : Int) <= 1099511627776; decide⟩⟩
 | i + 1, hi => by
   have ih := yvg h (i := i) (by omega)
   have hr := zt0 (zk8 h (i := i) (by omega))
   rw [bsN]
   split
   · exact hr
   · exact ih
theorem zxh : zay Tryz.prog (yl5 std) := by
 intro xs p r h hp
 dsimp only [yl5] at h |-
 split at h <;> cases h
 try simp only [L2, L3, std] at hp |-
 rename_i x host path
 obtain ⟨ho, hok⟩ := hp
 refine zsn zct ho ?_
 have hok : ym4 (ym5 std (zcg x) host path) := hok
 show zad Tryz.prog 9 (.agg ((List.range 7).map (lsC std (zcg x))) :: .str host :: .str path :: []) (.tup [.int .i64 (bsB (ym5 std (zcg x) host path)), .bool (bsS (ym5 std (zcg x) host path))])
 generalize zcg x = l at hok |-
 obtain ⟨h1, h2, h3, h4⟩ := hok
 obtain ⟨c, hc⟩ : ∃ c : Mb, c = ym5 std l host path := ⟨_, rfl⟩
 rw [<- hc]
 refine za8 (T := tt) (S := fun L => zam [ycm L, yiq L]) (lo := noA) (lb := fun L => bsA L c) 5 (fn := Tryz.f9) (xs := fun L => [.agg [lsC L l 0, lsC L l 1, lsC L l 2, lsC L l 3, lsC L l 4, lsC L l 5, lsC L l 6], .str host, .str path]) rfl rfl (by kernel_rfl) (by kernel_rfl) rfl zac (za2 ⟨zou, zvp, trivial⟩) (by kernel_rfl) ?_
 intro L P' Q' hL hP hQ
 (cbv; try simp only [syT, true_and, and_true])
 have hlen : c.rs.length = l.rs.length := by rw [hc]; rfl
 have hcok : ym4 c := by rw [hc]; exact ⟨h1, h2, h3, h4⟩
 have hz : c.rs.length <= 1000000 := hcok.1
 refine ⟨fun i hi => ?_, ?_⟩
 · have hi2 : i <= c.rs.length := by
     have h := hi
     rw [hL] at h
     exact h
   clear hi
   obtain ⟨i', hi'⟩ : ∃ i', i' = i + 1 := ⟨_, rfl⟩
   obtain ⟨b1, b2⟩ := yvg hcok hi2
   (cbv; try simp only [syT, true_and, and_true])
   obtain ⟨q, hq⟩ : ∃ q, zil L (L Rt.h (L (L zao (L Ls.rs l)) (L Int.toNat (L za7 i)))) (L Rt.p (L (L zao (L Ls.rs l)) (L Int.toNat (L za7 i)))) host path = q := ⟨_, rfl⟩
   rw [hq]
   have hqq : q = mbQ c i := by rw [<- hq, hL, hc]; rfl
   refine ⟨fun k => ?_, fun k => ?_⟩
   · have hie : i = c.rs.length := by
       rw [hL] at k
       have k : ieq (za7 i) (za7 l.rs.length) = true := k
       rw [zn2, za1, za1] at k
       omega
     subst hL; subst hQ
     rw [zko, zde, zde, ziu, zgr, zo1]
     unfold bsB bsS
     rw [<- hie]
     exact ⟨rfl, rfl, trivial⟩
   · have hie : i < c.rs.length := by
       have k' := k
       rw [hL] at k'
       have k' : ieq (za7 i) (za7 l.rs.length) = false := k'
       rw [zzf, za1, za1] at k'
       omega
     have hqk := zk8 hcok hie
     obtain ⟨r1, r2⟩ := zt0 hqk
     rw [<- hqq] at hqk r1 r2
     have hn : bsN c i' = if zft (rk1 q) (rk2 q) (bsN c i).x (bsN c i).y = true then ⟨i, true, rk1 q, rk2 q⟩ else bsN c i := by rw [hi', bsN, hqq]
     refine ⟨?_, ?_, fun k1 => ⟨?_, fun k2 => ⟨i', ?_⟩, fun k2 => ⟨i', ?_⟩⟩, fun k1 => ⟨i', ?_⟩⟩
     · subst hL
       show inR (za7 i) (za7 l.rs.length) = true
       rw [zn1, za1, za1]; omega
     · subst hL; exact hqk
     · subst hL; exact ⟨⟨zgn r1, zgn r2⟩, zgn b1, zgn b2⟩
     · have hg : zft (rk1 q) (rk2 q) (bsN c i).x (bsN c i).y = true := by
         rw [hL] at k2
         rw [<- yge r1 r2 b1 b2]; exact k2
       rw [if_pos hg] at hn
       (cbv; try simp only [syT, true_and, and_true])
       subst hL
       refine ⟨fun _ _ _ _ => trivial, ?_, ?_, ?_, ?_, ?_, ?_, ?_⟩
       · show zfi .i64 (za7 i) 1 = za7 i'
         unfold zfi za7
         rw [zha]; omega
       · show fOf (rk2 q) = fOf (bsN c i').y
         rw [hn]
       · show fOf (rk1 q) = fOf (bsN c i').x
         rw [hn]
       · show true = (bsN c i').s
         rw [hn]
       · show za7 i = (bsN c i').b
         rw [hn]; rfl
       · show i' <= c.rs.length
         omega
       · show c.rs.length - i' < c.rs.length - i
         omega
     · have hg : zft (rk1 q) (rk2 q) (bsN c i).x (bsN c i).y = false := by
         rw [hL] at k2
         rw [<- yge r1 r2 b1 b2]; exact k2
       rw [if_neg (by rw [hg]; decide)] at hn
       (cbv; try simp only [syT, true_and, and_true])
       subst hL
       refine ⟨fun _ _ _ _ => trivial, ?_, ?_, ?_, ?_, ?_, ?_, ?_⟩
       · show zfi .i64 (za7 i) 1 = za7 i'
         unfold zfi za7
         rw [zha]; omega
       · show fOf (bsN c i).y = fOf (bsN c i').y
         rw [hn]
       · show fOf (bsN c i).x = fOf (bsN c i').x
         rw [hn]
       · show (bsN c i).s = (bsN c i').s
         rw [hn]
       · show (bsN c i).b = (bsN c i').b
         rw [hn]
       · show i' <= c.rs.length
         omega
       · show c.rs.length - i' < c.rs.length - i
         omega
     · have hg : zft (rk1 q) (rk2 q) (bsN c i).x (bsN c i).y = false := by
         rw [hL] at k1
         have k1 : (!(fEq .f64 (fOf (rk1 q)) 0 && fEq .f64 (fOf (rk2 q)) 0)) = false := k1
         rw [yuq r1, yuq r2] at k1
         simp at k1
         obtain ⟨z1, z2⟩ := k1
         rw [z1, z2]
         unfold zft
         have c1 := b1.1
         have c2 := b2.1
         rw [decide_eq_false (show ¬ ((bsN c i).x < 0) by omega), decide_eq_false (show ¬ ((bsN c i).y < 0) by omega), Bool.and_false]
         rfl
       rw [if_neg (by rw [hg]; decide)] at hn
       (cbv; try simp only [syT, true_and, and_true])
       subst hL
       refine ⟨fun _ _ _ _ => trivial, ?_, ?_, ?_, ?_, ?_, ?_, ?_⟩
       · show zfi .i64 (za7 i) 1 = za7 i'
         unfold zfi za7
         rw [zha]; omega
       · show fOf (bsN c i).y = fOf (bsN c i').y
         rw [hn]
       · show fOf (bsN c i).x = fOf (bsN c i').x
         rw [hn]
       · show (bsN c i).s = (bsN c i').s
         rw [hn]
       · show (bsN c i).b = (bsN c i').b
         rw [hn]
       · show i' <= c.rs.length
         omega
       · show c.rs.length - i' < c.rs.length - i
         omega
 · refine ⟨0, ?_⟩
   (cbv; try simp only [syT, true_and, and_true])
   subst hL
   refine ⟨fun _ _ _ _ => trivial, rfl, ?_, ?_, ?_, ?_, Nat.zero_le _⟩
   · show 0 = fOf (bsN c 0).y
     rw [bsN]; decide
   · show 0 = fOf (bsN c 0).x
     rw [bsN]; decide
   · show false = (bsN c 0).s
     rw [bsN]
   · show (0 : Int) = (bsN c 0).b
     rw [bsN]
end Sy
end Go.Proofs.YtogpolfhcbgcbaaGreatDoor
namespace Go.Proofs.YtogpolfhcbgcbaaGreatDoor
namespace Sy
open Go Go.RowKit
set_option maxRecDepth 100000
set_option linter.unusedSimpArgs false
set_option linter.unusedVariables false
theorem awT : plT ⟨127, 0, 0, 1, 80⟩ = [49, 50, 55, 46, 48, 46, 48, 46, 49, 58, 56, 48] := by
 have d1 := (zh8 (s := [49, 50, 55]) (by decide)).1
 have d2 := (zh8 (s := [48]) (by decide)).1
 have d3 := (zh8 (s := [49]) (by decide)).1
 have d4 := (zh8 (s := [56, 48]) (by decide)).1
 rw [show wnV [49, 50, 55] = 127 by decide] at d1
 rw [show wnV [48] = 0 by decide] at d2
 rw [show wnV [49] = 1 by decide] at d3
 rw [show wnV [56, 48] = 80 by decide] at d4
 rw [plT, d1, d2, d3, d4]; rfl
theorem awO : yaj ⟨127, 0, 0, 1, 80⟩ := ⟨⟨by decide, by decide⟩, ⟨by decide, by decide⟩, ⟨by decide, by decide⟩, ⟨by decide, by decide⟩, by decide, by decide⟩
theorem ya7 : zad Tryz.prog 90 [] (.bool true) := by
 refine zaa (T := tt) (S := fun L => zam [tru 123, yoi L, ztc L]) (lo := noA) (lb := noA) 5 (fn := Tryz.f90) rfl rfl (by kernel_rfl) (by kernel_rfl) rfl zac (za2 ⟨zbz zoi, yir, zyq, trivial⟩) (by kernel_rfl) ?_
 have e := (ynh awO).1 (by decide)
 rw [awT] at e
 (intro L P1 Q1 hL hP hQ; cbv; subst hL; simp only [L2, L3, std, syT]; subst hQ)
 (simp only [syS, reduceCtorEq, Int.reduceToNat, Int.reduceAdd, Int.reduceSub])
 simp only [e.1, e.2]
 exact ⟨(by decide : (12 : Nat) <= 1000000), fun _ => ⟨fun _ => ⟨by omega, fun _ => ⟨awO, awT⟩, rfl⟩, trivial⟩, trivial⟩
theorem yah : zad Tryz.prog 66 [] (.bool true) := by
 refine zaa (T := tt) (S := fun L => zam [tru 90]) (lo := noA) (lb := noA) 5 (fn := Tryz.f66) rfl rfl (by kernel_rfl) (by kernel_rfl) rfl zac (za2 ⟨zbz ya7, trivial⟩) (by kernel_rfl) ?_
 (intro L P1 Q1 hL hP hQ; cbv; subst hL; simp only [L2, L3, std, syT]; subst hQ)
 (simp only [syS, reduceCtorEq, Int.reduceToNat, Int.reduceAdd, Int.reduceSub])
def plAt (L : zab) (x : Pl) : Nat -> AV
 | 0 => .int .u8 (L Pl.a x)
 | 1 => .int .u8 (L Pl.b x)
 | 2 => .int .u8 (L Pl.c x)
 | 3 => .int .u8 (L Pl.d x)
 | _ => .int .u16 (L Pl.p x)
def plOf (y : List Int × Int × Unit) : Pl := ⟨zkd y.1 0, zkd y.1 1, zkd y.1 2, zkd y.1 3, y.2.1⟩
theorem yit {H : Type} {enc : TypeId × Value -> H} {W : World} : zex enc Tryz.prog W 25 Pl 5 (plAt std) yaj := by
 have O := (zgf (P := Tryz.prog) (enc := enc) (W := W) Tryz.underlying25 (by kernel_rfl) (zbq rfl (ydd Tryz.underlying22 (by kernel_rfl) (zln Tryz.underlying5 (by kernel_rfl)) (by omega)) (zbq rfl (zln Tryz.underlying23 (by kernel_rfl)) (zjm _))))
 refine ⟨O.size, fun fuel cs x h => ?_⟩
 obtain ⟨y, ⟨⟨hl, hall⟩, hp, _⟩, hlen, hy⟩ := O.go fuel cs x h
 have hb : ∀ j, j < 4 -> 0 <= zkd y.1 j /\ zkd y.1 j <= 255 := fun j hj => by
   have hlt : j < y.1.length := by omega
   have := bounds_u8 (hall _ (List.getElem_mem hlt))
   rw [zkd, List.getD_eq_getElem?_getD, List.getElem?_eq_getElem hlt]
   exact this
 refine ⟨plOf y, ⟨hb 0 (by omega), hb 1 (by omega), hb 2 (by omega), hb 3 (by omega), bounds_u16 hp⟩, hlen, fun j hj => ?_⟩
 obtain ⟨v, v1, v2, v3⟩ := hy j hj
 refine ⟨v, v1, v2, ?_⟩
 have cell : ∀ k, k < 4 -> avL (fun n (_ : Nat) => AV.int .u8 n) y.1 (k / 1) (k % 1) = .int .u8 (zkd y.1 k) := fun k hk => by
   rw [Nat.div_one, avL, zkd, List.getD_eq_getElem?_getD, List.getElem?_eq_getElem (by omega : k < y.1.length)]; rfl
 match j, hj with
 | 0, _ => simp only [Nat.mul_one, Nat.lt_add_one, show (0 : Nat) < 4 by omega, if_true, cell] at v3; exact v3
 | 1, _ => simp only [Nat.mul_one, show (1 : Nat) < 4 by omega, if_true, cell] at v3; exact v3
 | 2, _ => simp only [Nat.mul_one, show (2 : Nat) < 4 by omega, if_true, cell] at v3; exact v3
 | 3, _ => simp only [Nat.mul_one, show (3 : Nat) < 4 by omega, if_true, cell] at v3; exact v3
 | 4, _ => exact v3
end Sy
end Go.Proofs.YtogpolfhcbgcbaaGreatDoor
namespace Go.Proofs.YtogpolfhcbgcbaaGreatDoor
namespace Sy
open Go Go.RowKit
theorem zex.turn {H : Type} {enc : TypeId × Value -> H} {P : Program} {W : World} {t : TypeId} {α β : Type} {sz : Nat} {av : α -> Nat -> AV} {av' : β -> Nat -> AV} {ok : α -> Prop} {ok' : β -> Prop} (O : zex enc P W t α sz av ok) (f : α -> β) (h2 : ∀ y, ok y -> ok' (f y))
   (h1 : ∀ y, ok y -> ∀ j, j < sz -> ∀ v, R W.heap (DW W) zav (av y j) v -> R W.heap (DW W) zav (av' (f y) j) v) : zex enc P W t β sz av' ok' := by
 refine ⟨O.size, fun fuel cs x h => ?_⟩
 obtain ⟨y, y1, y2, y3⟩ := O.go fuel cs x h
 refine ⟨f y, h2 y y1, y2, fun j hj => ?_⟩
 obtain ⟨v, v1, v2, v3⟩ := y3 j hj
 exact ⟨v, v1, v2, h1 y y1 j hj v v3⟩
end Sy
end Go.Proofs.YtogpolfhcbgcbaaGreatDoor
namespace Go.Proofs.YtogpolfhcbgcbaaGreatDoor
namespace Sy
open Go Go.RowKit
set_option maxRecDepth 100000
set_option linter.unusedSimpArgs false
set_option linter.unusedVariables false
theorem ytr {h : Array Obj} {D : Nat -> Prop} {μ : Mu} {sz n : Nat} {get get' : Nat -> Nat -> AV} {v : Value} (e : ∀ i j, i < n -> j < sz -> get i j = get' i j) (r : R h D μ (.lst sz n get) v) : R h D μ (.lst sz n get') v := by
 cases r with
 | lst0 _ _ a cap hn => exact .lst0 _ _ a cap hn
 | lst _ _ _ b o cap vs hD hc hv h1 hr => exact .lst _ _ _ b o cap vs hD hc hv h1 (fun i j hi hj => by rw [<- e i j hi hj]; exact hr i j hi hj)
theorem zyv {H : Type} {enc : TypeId × Value -> H} {P : Program} {W : World} {t e : TypeId} {α : Type} {V : Vw α} {ok : α -> Prop} (ht : P.underlying t = some (.slice e)) (hc : P.cellsOf t = 1) (he : zex enc P W e α V.sz (V.cell std) ok) (hs : 0 < V.sz) :
   zex enc P W t (List α) 1 (fun l _ => zz7 std V l) (fun l => l.length <= maxLen /\ ∀ y ∈ l, ok y) :=
 (zti ht hc he hs).turn id (fun y h => h) (fun y h j hj v r => ytr (fun i q hi hq => by
   show avL (V.cell std) y i q = V.cell std (zi0 V y i) q
   have hi : i < y.length := hi
   rw [avL, List.getElem?_eq_getElem hi, zas hi]) r)
end Sy
end Go.Proofs.YtogpolfhcbgcbaaGreatDoor
namespace Go.Proofs.YtogpolfhcbgcbaaGreatDoor
namespace Sy
open Go Go.RowKit
set_option maxRecDepth 100000
set_option linter.unusedSimpArgs false
set_option linter.unusedVariables false
theorem ysq : zb8 3 = [3] := by rw [zb8, show (3 : Int).toNat = 3 from rfl, zbg (by decide)]; rfl
theorem ybp : zb8 0 = [0] := by rw [zb8, show (0 : Int).toNat = 0 from rfl, zbg (by decide)]; rfl
theorem ymm : zby (ze0 []) = [3, 0] := by
 rw [ze0, zar, if_neg (by decide), if_neg (by decide), zb2]
 show _ ++ (zb8 0 ++ _) = _
 rw [ybp]; rfl
theorem yfi {n : Int} {b : UInt8} (h : zb8 n = [b]) : zby (ze0 [zhd n, ze0 [], ze0 []]) = [3, 3, 1, b, 3, 0, 3, 0] := by
 rw [ze0, zar, if_neg (by decide), if_neg (by decide), zb2, zb2, zb2, zb2]
 show _ ++ (zb8 3 ++ (_ ++ (_ ++ (_ ++ _)))) = _
 have e : zby (zhd n) = [1, b] := by rw [zhd, zar, if_pos rfl, h]; rfl
 have e' : zby (.mk 3 0 [] []) = [3, 0] := ymm
 rw [ysq, e, show zby (ze0 []) = [3, 0] from ymm]; rfl
theorem yqe (n : Int) : zg0 (ze0 [zhd n, ze0 [], ze0 []]) = true := by simp [ze0, zhd, zg0, zdq]
theorem yqd (n : Int) : zdn (ze0 [zhd n, ze0 [], ze0 []]) <= 6 := by
 simp only [ze0, zhd, zdn, zb4]
 split <;> decide
theorem ykq {n : Int} {b : UInt8} (h : zb8 n = [b]) : cfE ⟨n, [], []⟩ = 0 /\ cfT ⟨n, [], []⟩ = [3, 3, 1, b, 3, 0, 3, 0] := by
 have h1 : ztb (zuo ⟨n, [], []⟩) = 0 := by
   show ztb (ze0 [zhd n, ze0 [], ze0 []]) = 0
   have := yqd n
   rw [ztb, if_pos (yqe n), if_neg (by omega), yfi h]; rfl
 have h2 : cfE ⟨n, [], []⟩ = 0 := h1
 refine ⟨h2, ?_⟩
 rw [cfT, if_pos h2, (yt4 h1).2.2.2]
 exact yfi h
theorem yt2 (n : Int) : zfm (.agg [.int .u64 n, .nils, .nils]) = ⟨n, [], []⟩ := rfl
theorem ylz (n : Int) : zp6 (.agg [.int .u64 n, .nils, .nils]) := ⟨rfl, ⟨_, rfl⟩, trivial, trivial⟩
theorem yd3 {n : Int} (h : zcy n) : ygj ⟨n, [], []⟩ := ⟨rfl, h, (fun l hl => nomatch hl), (fun l hl => nomatch hl)⟩
theorem ya4 : zad Tryz.prog 45 [] (.bool true) := by
 refine zaa (T := tt) (S := fun L => zam [yr9 L, tru 66, tru 67]) (lo := noA) (lb := noA) 5 (fn := Tryz.f45) rfl rfl (by kernel_rfl) (by kernel_rfl) rfl zac (za2 ⟨yl4, zbz yah, zbz yag, trivial⟩) (by kernel_rfl) ?_
 intro L P' Q' hL hP hQ
 (cbv; try simp only [syT, true_and, and_true])
 (subst hL; subst hQ; simp only [L2, L3, std] at *; try simp only [syS, reduceCtorEq, Int.reduceToNat, Int.reduceAdd, Int.reduceSub] at *)
 simp only [yt2, (ykq ybo).1, (ykq ybo).2, (ykq ybp).1, (ykq ybp).2]
 exact ⟨⟨ylz 1, yd3 ⟨by decide, by decide⟩⟩, ⟨ylz 0, yd3 ⟨by decide, by decide⟩⟩, fun _ => ⟨fun _ => ⟨fun _ => trivial, trivial⟩, trivial⟩, trivial⟩
end Sy
end Go.Proofs.YtogpolfhcbgcbaaGreatDoor
namespace Go.Proofs.YtogpolfhcbgcbaaGreatDoor
namespace Sy
open Go Go.RowKit
set_option maxRecDepth 100000
set_option linter.unusedSimpArgs false
set_option linter.unusedVariables false
theorem zuz : zad Tryz.prog 22 [] (.bool true) := by
 refine zaa (T := tt) (S := fun L => zam [tru 43]) (lo := noA) (lb := noA) 5 (fn := Tryz.f22) rfl rfl (by kernel_rfl) (by kernel_rfl) rfl zac (za2 ⟨zbz ya8, trivial⟩) (by kernel_rfl) ?_
 intro L P' Q' hL hP hQ
 (cbv; try simp only [syT, true_and, and_true])
 subst hL; subst hQ
 rw [zah]
theorem zux : zad Tryz.prog 24 [] (.bool true) := by
 refine zaa (T := tt) (S := fun L => zam [tru 45]) (lo := noA) (lb := noA) 5 (fn := Tryz.f24) rfl rfl (by kernel_rfl) (by kernel_rfl) rfl zac (za2 ⟨zbz ya4, trivial⟩) (by kernel_rfl) ?_
 intro L P' Q' hL hP hQ
 (cbv; try simp only [syT, true_and, and_true])
 subst hL; subst hQ
 rw [zah]
def exC : Mb := ⟨[⟨[42, 46, 98], [47], [], 0⟩, ⟨[97, 46, 98], [47], [], 0⟩], [97, 46, 98], [47, 120]⟩
theorem zx2 : zgd [47, 120] = 0 := by
 unfold zgd
 rw [if_neg, if_neg]
 · decide
 · rintro (h | h | h)
   · revert h; decide
   · obtain ⟨j, hj, h1, h2⟩ := h
     have hj : j + 1 < 2 := hj
     obtain rfl : j = 0 := by omega
     revert h2; decide
   · revert h; decide
theorem yuv : rk1 (mbQ exC 0) = 3 /\ rk2 (mbQ exC 0) = 0 := by
 have hm : mtB (mbQ exC 0) = true := by
   show (decide (zgd [47, 120] = 0) && (zsm [42, 46, 98] [97, 46, 98] && zsj [47] [47, 120])) = true
   rw [zx2]
   decide +kernel
 unfold rk1 rk2
 rw [if_pos hm, if_pos hm]
 exact ⟨by decide +kernel, by decide +kernel⟩
theorem yuu : rk1 (mbQ exC 1) = 4 /\ rk2 (mbQ exC 1) = 0 := by
 have hm : mtB (mbQ exC 1) = true := by
   show (decide (zgd [47, 120] = 0) && (zsm [97, 46, 98] [97, 46, 98] && zsj [47] [47, 120])) = true
   rw [zx2]
   decide +kernel
 unfold rk1 rk2
 rw [if_pos hm, if_pos hm]
 exact ⟨by decide +kernel, by decide +kernel⟩
theorem zx3 : bsN exC 2 = ⟨1, true, 4, 0⟩ := by
 have h1 : bsN exC 1 = ⟨0, true, 3, 0⟩ := by
   rw [bsN, yuv.1, yuv.2]
   show (if zft 3 0 (bsN exC 0).x (bsN exC 0).y = true then _ else _) = _
   rw [bsN]
   rfl
 rw [bsN, yuu.1, yuu.2, h1]
 rfl
theorem yut : ym4 exC := ⟨by decide, by decide, by decide, fun r hr => by
 have hr : r ∈ [(⟨[42, 46, 98], [47], [], 0⟩ : Rt), ⟨[97, 46, 98], [47], [], 0⟩] := hr
 simp only [List.mem_cons, List.not_mem_nil, or_false] at hr
 rcases hr with rfl | rfl <;> exact ⟨by decide, by decide⟩⟩
theorem ya3 : zad Tryz.prog 6 [] (.bool true) := by
 refine zaa (T := tt) (S := fun L => zam [yl5 L, tru 22, tru 23, tru 24]) (lo := noA) (lb := noA) 5 (fn := Tryz.f6) rfl rfl (by kernel_rfl) (by kernel_rfl) rfl zac (za2 ⟨zxh, zbz zuz, zbz zuy, zbz zux, trivial⟩) (by kernel_rfl) ?_
 intro L P' Q' hL hP hQ
 (cbv; try simp only [syT, true_and, and_true])
 subst hL; subst hQ
 have eB : bsB exC = 1 := by show (bsN exC 2).b = 1; rw [zx3]
 have eS : bsS exC = true := by show (bsN exC 2).s = true; rw [zx3]
 refine ⟨⟨?_, yut⟩, fun _ => ⟨fun _ => ⟨fun _ => ⟨fun _ => ?_, fun h => absurd (eS.symm.trans h) (by decide)⟩, fun h => (by cases h)⟩, fun h => (by cases h)⟩, fun h => (by cases h)⟩
 · refine ⟨rfl, ⟨_, rfl⟩, ⟨⟨_, rfl⟩, ⟨_, rfl⟩, ⟨_, rfl⟩, ⟨_, rfl⟩, ⟨_, rfl⟩⟩, rfl, fun i hi => ?_⟩
   match i, hi with
   | 0, _ => exact ⟨⟨_, rfl⟩, ⟨_, rfl⟩, ⟨_, rfl⟩, ⟨_, rfl⟩⟩
   | 1, _ => exact ⟨⟨_, rfl⟩, ⟨_, rfl⟩, ⟨_, rfl⟩, ⟨_, rfl⟩⟩
 · rw [zah]
   show ieq (bsB exC) 1 = true
   rw [eB]; rfl
end Sy
end Go.Proofs.YtogpolfhcbgcbaaGreatDoor
namespace Go.Proofs.YtogpolfhcbgcbaaGreatDoor
namespace Sy
open Go Go.RowKit
set_option maxRecDepth 100000
set_option linter.unusedSimpArgs false
set_option linter.unusedVariables false
def zov (L : zab) : zbb := (26, fun xs => match xs with
 | [.str s] => some (L2 L upto 9223372036854775807 s, .str (L zbi s))
 | _ => none)
theorem znd : zay Tryz.prog (zov std) := by
 intro xs p r h hp
 dsimp only [zov] at h |-
 split at h <;> cases h
 try simp only [L2, L3, std] at hp |-
 rename_i s
 have hz : s.length <= 9223372036854775807 := hp
 refine za8 (T := tt) (S := fun L => noS L) (lo := fun L => yny L s) (lb := noA) 5 (fn := Tryz.f26) (xs := fun L => [.str s]) rfl rfl (by kernel_rfl) (by kernel_rfl) rfl zac (zc2 _) (by kernel_rfl) ?_
 intro L P' Q' hL hP hQ
 (cbv; try simp only [syT, true_and, and_true])
 refine ⟨⟨0, ?_⟩, fun i hi => ?_⟩
 · (cbv; try simp only [syT, true_and, and_true])
   (subst hL; subst hQ; simp only [L2, L3, std] at *; try simp only [syS, reduceCtorEq, Int.reduceToNat, Int.reduceAdd, Int.reduceSub] at *)
   exact ⟨by simp [yh6, zbi], Nat.zero_le _⟩
 · have hi2 : i <= s.length := by
     have h := hi
     rw [hL] at h
     exact h
   clear hi
   have hll : (yh6 s i).length <= i := by
     unfold yh6 zbi
     rw [List.length_map, List.length_take]
     exact Nat.min_le_left _ _
   (cbv; try simp only [syT, true_and, and_true])
   have hc : L (L zhh s) (L za7 i) = zae s i := by subst hL; rfl
   rw [hc]
   have one : ∀ x : Int, zbf 1 (fun k => (AV.int .u8 (zkd [x] (0 + k))).toI) = [UInt8.ofNat x.toNat] := fun x => rfl
   refine ⟨fun hlt => ⟨?_, fun h1 => ⟨fun h2 => ⟨⟨?_, fun k hk => ⟨_, rfl⟩⟩, ?_, i + 1, ?_⟩, fun h2 => ⟨⟨?_, fun k hk => ⟨_, rfl⟩⟩, ?_, i + 1, ?_⟩⟩, fun h1 => ⟨⟨?_, fun k hk => ⟨_, rfl⟩⟩, ?_, i + 1, ?_⟩⟩, fun hge => ?_⟩
   · (subst hL; subst hQ; simp only [L2, L3, std] at *; try simp only [syS, reduceCtorEq, Int.reduceToNat, Int.reduceAdd, Int.reduceSub] at *)
     omega
   · (subst hL; subst hQ; simp only [L2, L3, std] at *; try simp only [syS, reduceCtorEq, Int.reduceToNat, Int.reduceAdd, Int.reduceSub] at *)
     omega
   · (subst hL; subst hQ; simp only [L2, L3, std] at *; try simp only [syS, reduceCtorEq, Int.reduceToNat, Int.reduceAdd, Int.reduceSub] at *)
     simp only [one, List.length_singleton]
     omega
   · (cbv; try simp only [syT, true_and, and_true])
     (subst hL; subst hQ; simp only [L2, L3, std] at *; try simp only [syS, reduceCtorEq, Int.reduceToNat, Int.reduceAdd, Int.reduceSub] at *)
     refine ⟨?_, by omega, by show i + 1 <= s.length; omega, by show s.length - (i + 1) + 1 <= s.length - i; omega⟩
     rw [one, zlw (by omega), yh8, if_pos ⟨h1, h2⟩, show (zae s i + 32) % 256 = zae s i + 32 by omega]
   · (subst hL; subst hQ; simp only [L2, L3, std] at *; try simp only [syS, reduceCtorEq, Int.reduceToNat, Int.reduceAdd, Int.reduceSub] at *)
     omega
   · (subst hL; subst hQ; simp only [L2, L3, std] at *; try simp only [syS, reduceCtorEq, Int.reduceToNat, Int.reduceAdd, Int.reduceSub] at *)
     simp only [one, List.length_singleton]
     omega
   · (cbv; try simp only [syT, true_and, and_true])
     (subst hL; subst hQ; simp only [L2, L3, std] at *; try simp only [syS, reduceCtorEq, Int.reduceToNat, Int.reduceAdd, Int.reduceSub] at *)
     refine ⟨?_, by omega, by show i + 1 <= s.length; omega, by show s.length - (i + 1) + 1 <= s.length - i; omega⟩
     rw [one, zlw (by omega), yh8, if_neg (by omega)]
   · (subst hL; subst hQ; simp only [L2, L3, std] at *; try simp only [syS, reduceCtorEq, Int.reduceToNat, Int.reduceAdd, Int.reduceSub] at *)
     omega
   · (subst hL; subst hQ; simp only [L2, L3, std] at *; try simp only [syS, reduceCtorEq, Int.reduceToNat, Int.reduceAdd, Int.reduceSub] at *)
     simp only [one, List.length_singleton]
     omega
   · (cbv; try simp only [syT, true_and, and_true])
     (subst hL; subst hQ; simp only [L2, L3, std] at *; try simp only [syS, reduceCtorEq, Int.reduceToNat, Int.reduceAdd, Int.reduceSub] at *)
     refine ⟨?_, by omega, by show i + 1 <= s.length; omega, by show s.length - (i + 1) + 1 <= s.length - i; omega⟩
     rw [one, zlw (by omega), yh8, if_neg (by omega)]
   · (subst hL; subst hQ; simp only [L2, L3, std] at *; try simp only [syS, reduceCtorEq, Int.reduceToNat, Int.reduceAdd, Int.reduceSub] at *)
     exact yjf (by omega)
end Sy
end Go.Proofs.YtogpolfhcbgcbaaGreatDoor
namespace Go.Proofs.YtogpolfhcbgcbaaGreatDoor
namespace Sy
open Go Go.RowKit
set_option maxRecDepth 100000
set_option linter.unusedSimpArgs false
set_option linter.unusedVariables false
def zow (L : zab) : zbb := (25, fun xs => match xs with
 | [.str s] => some (L2 L upto 9223372036854775807 s, .int .i64 (L zdx s))
 | _ => none)
theorem zt1 : zay Tryz.prog (zow std) := by
 intro xs p r h hp
 dsimp only [zow] at h |-
 split at h <;> cases h
 try simp only [L2, L3, std] at hp |-
 rename_i s
 have hp : s.length <= 9223372036854775807 := hp
 refine za8 (T := tt) (S := fun L => zam [znf L, zsz L]) (lo := fun L => ysx L s) (lb := noA) 5 (fn := Tryz.f25) (xs := fun L => [.str s]) rfl rfl (by kernel_rfl) (by kernel_rfl) rfl zac (za2 ⟨zib, zyh, trivial⟩) (by kernel_rfl) ?_
 intro L P' Q' hL hP hQ
 (cbv; try simp only [syT, true_and, and_true])
 repeat' first | refine And.intro ?_ ?_ | refine fun (hh : (_ : Bool) = _) => ?_
 all_goals try (refine ⟨0, ?_⟩; (cbv; try simp only [syT, true_and, and_true]))
 all_goals try
   (intro i hi
    cbv at hi
    (cbv; try simp only [syT, true_and, and_true])
    repeat' first | refine And.intro ?_ ?_ | refine fun (hh : (_ : Bool) = _) => ?_
    all_goals try (refine ⟨i + 1, ?_⟩; (cbv; try simp only [syT, true_and, and_true])))
 all_goals (subst hL; subst hQ; simp only [L2, L3, std] at *; try simp only [syS, reduceCtorEq, Int.reduceToNat, Int.reduceAdd, Int.reduceSub] at *)
 all_goals have hls : ye5 (spC s 46) = (za9 s [46]).length := rfl
 all_goals have hsp := ybj s
 all_goals try
   (have g1 : ¬ ((s.length : Nat) : Int) = 0 := by assumption
    have g1 : ¬ s = [] := fun h => g1 (by rw [h]; rfl)
    have g2 : ((s.length : Nat) : Int) <= 64 := by assumption
    have g2 : s.length <= 64 := by omega)
 all_goals first
   | exact (if_pos (List.eq_nil_of_length_eq_zero (by omega))).symm
   | (have g1 : ¬ ((s.length : Nat) : Int) = 0 := by assumption
      have g1 : ¬ s = [] := fun h => g1 (by rw [h]; rfl)
      have g2 : 64 < s.length := by omega
      exact (by rw [zdx, if_neg g1, if_pos g2] : zdx s = 5).symm)
   | (show s.length <= 1000000; omega)
   | (show s.length <= 1000000000; omega)
   | exact hp
   | exact ⟨by decide, by decide⟩
   | exact ⟨by omega, by omega⟩
   | exact ⟨Nat.zero_le _, fun k hk => by omega⟩
   | exact Nat.le_trans (ydj _ _ i) (by omega)
   | (refine (yx1 g1 g2 (i := i) (by omega) ?_).symm
      rintro (q | ⟨q1, q2, q3⟩)
      · have r : zea (zc1 (spC s 46) i) = false := by assumption
        exact absurd (r.symm.trans q) (by decide)
      · first
          | exact absurd (show zc1 (spC s 46) i = [42] from q1) (by assumption)
          | omega)
   | (refine (ysy g1 g2 hi (by omega)).symm)
   | (refine ⟨by omega, ycn hi (show i < (za9 s [46]).length by omega) (.inl (show zea (zc1 (spC s 46) i) = true by assumption)), ?_⟩
      show (za9 s [46]).length - (i + 1) + 1 <= (za9 s [46]).length - i
      omega)
   | (refine ⟨by omega, ycn hi (show i < (za9 s [46]).length by omega) (.inr ⟨show zc1 (spC s 46) i = [42] by assumption, by omega, show 1 < (za9 s [46]).length by omega⟩), ?_⟩
      show (za9 s [46]).length - (i + 1) + 1 <= (za9 s [46]).length - i
      omega)
end Sy
end Go.Proofs.YtogpolfhcbgcbaaGreatDoor
namespace Go.Proofs.YtogpolfhcbgcbaaGreatDoor
namespace Sy
open Go Go.RowKit
set_option maxRecDepth 100000
set_option linter.unusedSimpArgs false
set_option linter.unusedVariables false
noncomputable def hrB (r : Rt) : Bool := decide (zdx (zbi r.h) = 0) && decide (r.p.length <= 300)
noncomputable def zzn (l : Ls) (host : List UInt8) : Bool := decide (zdx (zbi host) = 0) && (decide (l.rs.length <= 20) && l.rs.all hrB)
def ypi (l : Ls) (host : List UInt8) : Prop := host.length <= 9223372036854775807 /\ ∀ r ∈ l.rs, r.h.length <= 9223372036854775807
noncomputable def hsI (l : Ls) (i : Nat) : Prop := i <= l.rs.length /\ ∀ j, j < i -> hrB (zao l.rs j) = true
def hsMu (l : Ls) (i : Nat) : Nat := l.rs.length - i
noncomputable def hsA (L : zab) (l : Ls) : Nat -> St -> Option Ann := fun id st => match id with
 | 0 => some ⟨Nat, fun i => [(20, .int .i64 (L za7 i))], fun i => [], [18, 19], [], fun i => L2 L hsI l i, fun i => L2 L hsMu l i⟩
 | _ => none
noncomputable def yph (L : zab) : zbb := (7, fun xs => match xs with
 | [x, .str host] => some (L zii x /\ L2 L ypi (L zcg x) host, .bool (L2 L zzn (L zcg x) host))
 | _ => none)
theorem yk3 : zay Tryz.prog (yph std) := by
 intro xs p r h hp
 dsimp only [yph] at h |-
 split at h <;> cases h
 try simp only [L2, L3, std] at hp |-
 rename_i x host
 obtain ⟨ho, hok⟩ := hp
 refine zsn zct ho ?_
 have hok : ypi (zcg x) host := hok
 show zad Tryz.prog 7 (.agg ((List.range 7).map (lsC std (zcg x))) :: .str host :: []) (.bool (zzn (zcg x) host))
 generalize zcg x = l at hok |-
 obtain ⟨h1, h2⟩ := hok
 refine za8 (T := tt) (S := fun L => zam [zov L, zow L]) (lo := fun L => hsA L l) (lb := noA) 5 (fn := Tryz.f7) (xs := fun L => [.agg [lsC L l 0, lsC L l 1, lsC L l 2, lsC L l 3, lsC L l 4, lsC L l 5, lsC L l 6], .str host]) rfl rfl (by kernel_rfl) (by kernel_rfl) rfl zac (za2 ⟨znd, zt1, trivial⟩) (by kernel_rfl) ?_
 intro L P' Q' hL hP hQ
 have hll : ∀ s : List UInt8, (zbi s).length = s.length := fun s => by simp [zbi]
 have no : ¬ (zdx (zbi host) = 0 /\ l.rs.length <= 20 /\ ∀ r ∈ l.rs, hrB r = true) -> zzn l host = false := fun h => by
   refine Bool.eq_false_iff.2 fun h2 => h ?_
   unfold zzn at h2
   simp only [Bool.and_eq_true, decide_eq_true_eq, List.all_eq_true] at h2
   exact h2
 (cbv; try simp only [syT, true_and, and_true])
 refine ⟨?_, ?_, fun k1 => ?_, fun k1 => ⟨fun k2 => ?_, fun k2 => ⟨⟨0, ?_⟩, fun i hi => ?_⟩⟩⟩
 · subst hL; exact h1
 · subst hL
   show (zbi host).length <= 9223372036854775807
   rw [hll]; exact h1
 · subst hL; subst hQ
   have k1 : ine (zdx (zbi host)) 0 = true := k1
   rw [yju] at k1
   rw [zah]
   exact (no fun h => k1 h.1).symm
 · subst hL; subst hQ
   have k2 : ilt 20 (za7 l.rs.length) = true := k2
   rw [zcp, za1] at k2
   rw [zah]
   exact (no fun h => by have := h.2.1; omega).symm
 · (cbv; try simp only [syT, true_and, and_true])
   subst hL
   exact ⟨fun _ _ _ _ => trivial, rfl, Nat.zero_le _, fun j hj => by omega⟩
 · obtain ⟨hi1, hi2⟩ : hsI l i := by
     have h := hi
     rw [hL] at h
     exact h
   clear hi
   obtain ⟨i', hi'⟩ : ∃ i', i' = i + 1 := ⟨_, rfl⟩
   (cbv; try simp only [syT, true_and, and_true])
   have c20 : l.rs.length <= 20 := by
     have h := k2
     rw [hL] at h
     have h : ilt 20 (za7 l.rs.length) = false := h
     rw [zeh, za1] at h
     omega
   refine ⟨fun hlt => ?_, fun hge => ?_⟩
   · have hl : i < l.rs.length := by
       have h := hlt
       rw [hL] at h
       have h : ilt (za7 i) (za7 l.rs.length) = true := h
       rw [zcp, za1, za1] at h
       omega
     have hat : zao l.rs i = l.rs[i] := zas hl
     have hm : zao l.rs i ∈ l.rs := by rw [hat]; exact List.getElem_mem hl
     have hr := h2 _ hm
     refine ⟨?_, ?_, ?_, fun k3 => ?_, fun k3 => ⟨fun k4 => ?_, fun k4 => ⟨i', ?_⟩⟩⟩
     · subst hL
       show inR (za7 i) (za7 l.rs.length) = true
       rw [zn1, za1, za1]; omega
     · subst hL; exact hr
     · subst hL
       show (zbi (zao l.rs i).h).length <= 9223372036854775807
       rw [hll]; exact hr
     · subst hL; subst hQ
       have k3 : ine (zdx (zbi (zao l.rs i).h)) 0 = true := k3
       rw [yju] at k3
       rw [zah]
       refine (no fun h => ?_).symm
       have := h.2.2 _ hm
       unfold hrB at this
       simp only [Bool.and_eq_true, decide_eq_true_eq] at this
       exact k3 this.1
     · subst hL; subst hQ
       have k4 : ilt 300 (slen (zao l.rs i).p) = true := k4
       rw [zcp, zgb] at k4
       rw [zah]
       refine (no fun h => ?_).symm
       have := h.2.2 _ hm
       unfold hrB at this
       simp only [Bool.and_eq_true, decide_eq_true_eq] at this
       have := this.2
       omega
     · (cbv; try simp only [syT, true_and, and_true])
       subst hL
       have k3 : ine (zdx (zbi (zao l.rs i).h)) 0 = false := k3
       have k4 : ilt 300 (slen (zao l.rs i).p) = false := k4
       rw [yjv] at k3
       rw [zeh, zgb] at k4
       refine ⟨fun _ _ _ _ => trivial, ?_, ⟨?_, fun j hj => ?_⟩, ?_⟩
       · show zfi .i64 (za7 i) 1 = za7 i'
         unfold zfi za7
         rw [zha]; omega
       · omega
       · by_cases hj2 : j < i
         · exact hi2 j hj2
         · have : j = i := by omega
           subst this
           unfold hrB
           rw [decide_eq_true k3, decide_eq_true (by omega)]; rfl
       · show l.rs.length - i' < l.rs.length - i
         omega
   · have hie : i = l.rs.length := by
       have h := hge
       rw [hL] at h
       have h : ilt (za7 i) (za7 l.rs.length) = false := h
       rw [zeh, za1, za1] at h
       omega
     subst hL; subst hQ
     have k1 : ine (zdx (zbi host)) 0 = false := k1
     rw [yjv] at k1
     rw [zah]
     show true = zzn l host
     unfold zzn
     rw [decide_eq_true k1, decide_eq_true c20, Bool.true_and, Bool.true_and]
     refine (List.all_eq_true.2 fun r hr => ?_).symm
     obtain ⟨j, hj, rfl⟩ := List.getElem_of_mem hr
     have := hi2 j (by omega)
     rw [show zao l.rs j = l.rs[j] from zas hj] at this
     exact this
end Sy
end Go.Proofs.YtogpolfhcbgcbaaGreatDoor
namespace Go.Proofs.YtogpolfhcbgcbaaGreatDoor
namespace Sy
open Go Go.RowKit
set_option maxRecDepth 100000
set_option linter.unusedSimpArgs false
set_option linter.unusedVariables false
theorem zrn {s : List UInt8} (h : zdx s = 0) : s ≠ [] /\ s.length <= 64 := by
 unfold zdx at h
 split at h
 · cases h
 · rename_i h1
   split at h
   · cases h
   · rename_i h2
     exact ⟨h1, by omega⟩
theorem yue {l : Ls} {host path : List UInt8} (h : zzn l host = true) (hp : path.length <= 300) : ym4 ⟨l.rs, host, path⟩ /\ l.rs.length <= 20 /\ host ≠ [] := by
 have hll : ∀ s : List UInt8, (zbi s).length = s.length := fun s => by simp [zbi]
 unfold zzn at h
 simp only [Bool.and_eq_true, decide_eq_true_eq, List.all_eq_true] at h
 obtain ⟨h1, h2, h3⟩ := h
 obtain ⟨e1, e2⟩ := zrn h1
 rw [hll] at e2
 refine ⟨⟨?_, ?_, ?_, fun r hr => ?_⟩, h2, fun e => e1 (by rw [e]; rfl)⟩
 · show l.rs.length <= 1000000
   omega
 · show host.length <= 900000
   omega
 · show path.length <= 900000
   omega
 · have := h3 r hr
   unfold hrB at this
   simp only [Bool.and_eq_true, decide_eq_true_eq] at this
   obtain ⟨_, q2⟩ := zrn this.1
   rw [hll] at q2
   exact ⟨by omega, by omega⟩
end Sy
end Go.Proofs.YtogpolfhcbgcbaaGreatDoor
namespace Go.Proofs.YtogpolfhcbgcbaaGreatDoor
namespace Sy
open Go Go.RowKit
set_option maxRecDepth 100000
set_option linter.unusedSimpArgs false
set_option linter.unusedVariables false
theorem zhq {a b x y : Int} : zft a b x y = true ↔ x < a \/ a = x /\ y < b := by
 unfold zft
 simp only [Bool.or_eq_true, Bool.and_eq_true, decide_eq_true_eq]
theorem zgm {a b x y : Int} : zft a b x y = false ↔ a < x \/ a = x /\ b <= y := by
 rw [Bool.eq_false_iff, ne_eq, zhq]
 omega
noncomputable def yrs (c : Mb) (j b : Nat) : Bool := zft (rk1 (mbQ c j)) (rk2 (mbQ c j)) (rk1 (mbQ c b)) (rk2 (mbQ c b))
theorem zqv {c : Mb} {j b : Nat} : yrs c j b = true ↔ rk1 (mbQ c b) < rk1 (mbQ c j) \/ rk1 (mbQ c j) = rk1 (mbQ c b) /\ rk2 (mbQ c b) < rk2 (mbQ c j) := zhq
theorem zne {c : Mb} {j b : Nat} : yrs c j b = false ↔ rk1 (mbQ c j) < rk1 (mbQ c b) \/ rk1 (mbQ c j) = rk1 (mbQ c b) /\ rk2 (mbQ c j) <= rk2 (mbQ c b) := zgm
structure yu2 (c : Mb) (n b : Nat) : Prop where
 lt : b < n
 mt : mtB (mbQ c b) = true
 max : ∀ j, j < n -> yrs c j b = false
 first : ∀ j, j < b -> yrs c b j = true
theorem zle {q : Mq} (h : mtB q = true) : 1 <= rk1 q /\ 0 <= rk2 q /\ rk1 q = rkA q.h /\ rk2 q = rkB q.p := by
 have hc0 : 0 <= zq4 q.h [46] := Int.natCast_nonneg _
 unfold rk1 rk2
 rw [if_pos h, if_pos h]
 refine ⟨?_, Int.natCast_nonneg _, rfl, rfl⟩
 unfold rkA
 split <;> omega
theorem zyj {q : Mq} (h : mtB q = false) : rk1 q = 0 /\ rk2 q = 0 := by
 unfold rk1 rk2
 rw [if_neg (by rw [h]; decide), if_neg (by rw [h]; decide)]
 exact ⟨rfl, rfl⟩
theorem ygk (c : Mb) : ∀ n, (bsN c n = ⟨0, false, 0, 0⟩ /\ ∀ j, j < n -> mtB (mbQ c j) = false) \/ ∃ b : Nat, yu2 c n b /\ bsN c n = ⟨b, true, rk1 (mbQ c b), rk2 (mbQ c b)⟩
 | 0 => .inl ⟨by rw [bsN], fun j h => absurd h (Nat.not_lt_zero j)⟩
 | n + 1 => by
   rcases ygk c n with ⟨h1, h2⟩ | ⟨b, hb, he⟩
   · rw [bsN, h1]
     cases hm : mtB (mbQ c n) with
     | true =>
       obtain ⟨p1, p2, _⟩ := zle hm
       rw [if_pos (zhq.2 (.inl (by show (0 : Int) < _; omega)))]
       refine .inr ⟨n, ⟨Nat.lt_succ_self n, hm, fun j hj => ?_, fun j hj => ?_⟩, rfl⟩
       · by_cases e : j = n
         · subst e; exact zne.2 (by omega)
         · obtain ⟨q1, q2⟩ := zyj (h2 j (by omega))
           exact zne.2 (by omega)
       · obtain ⟨q1, q2⟩ := zyj (h2 j hj)
         exact zqv.2 (by omega)
     | false =>
       obtain ⟨q1, q2⟩ := zyj hm
       rw [if_neg (by rw [q1, q2]; decide)]
       refine .inl ⟨rfl, fun j hj => ?_⟩
       by_cases e : j = n
       · subst e; exact hm
       · exact h2 j (by omega)
   · rw [bsN, he]
     obtain ⟨p1, p2, _⟩ := zle hb.mt
     split
     · rename_i hg
       have hg : yrs c n b = true := hg
       have hm : mtB (mbQ c n) = true := by
         cases hm : mtB (mbQ c n) with
         | true => rfl
         | false =>
           obtain ⟨q1, q2⟩ := zyj hm
           have := zqv.1 hg
           omega
       refine .inr ⟨n, ⟨Nat.lt_succ_self n, hm, fun j hj => ?_, fun j hj => ?_⟩, rfl⟩
       · by_cases e : j = n
         · subst e; exact zne.2 (by omega)
         · have h1 := zne.1 (hb.max j (by omega))
           have h2 := zqv.1 hg
           exact zne.2 (by omega)
       · have h1 := zne.1 (hb.max j (by omega))
         have h2 := zqv.1 hg
         exact zqv.2 (by omega)
     · rename_i hg
       have hg : yrs c n b = false := by rw [Bool.not_eq_true] at hg; exact hg
       refine .inr ⟨b, ⟨Nat.lt_succ_of_lt hb.lt, hb.mt, fun j hj => ?_, hb.first⟩, rfl⟩
       by_cases e : j = n
       · subst e; exact hg
       · exact hb.max j (by omega)
theorem yog (s : List UInt8) (b : UInt8) : zk6 s [b] = true ↔ s.head? = some b := by
 unfold zk6
 cases s with
 | nil => simp
 | cons x s => simp
end Sy
end Go.Proofs.YtogpolfhcbgcbaaGreatDoor
namespace Go.Proofs.YtogpolfhcbgcbaaGreatDoor
namespace Sy
open Go Go.RowKit
set_option linter.unusedSimpArgs false
set_option linter.unusedVariables false
section
variable {α : Type} (lt : α -> α -> Bool)
def zqf (x : α) (l : List α) : Nat -> Nat
 | 0 => 0
 | k + 1 => match l[k]? with
   | some y => if lt x y = true then zqf x l k else k + 1
   | none => k + 1
def zqe (l : List α) (x : α) : List α := l.take (zqf lt x l l.length) ++ x :: l.drop (zqf lt x l l.length)
def zhb (l : List α) : List α := l.foldl (zqe lt) []
theorem zt9 (x : α) (l : List α) : ∀ k, zqf lt x l k <= k
 | 0 => Nat.le_refl _
 | k + 1 => by
   unfold zqf
   split
   · split
     · exact Nat.le_succ_of_le (zt9 x l k)
     · exact Nat.le_refl _
   · exact Nat.le_refl _
theorem zta {x : α} {l : List α} {j : Nat} : ∀ {k : Nat}, j <= k -> k <= l.length -> (∀ q y, j <= q -> q < k -> l[q]? = some y -> lt x y = true) -> (∀ y, l[j - 1]? = some y -> 0 < j -> lt x y = false) -> zqf lt x l k = j
 | 0, h1, _, _, _ => by
   have : j = 0 := by omega
   rw [this]; rfl
 | k + 1, h1, h2, h3, h4 => by
   unfold zqf
   have hk : l[k]? = some l[k] := List.getElem?_eq_getElem (by omega)
   rw [hk]
   simp only
   by_cases e : j = k + 1
   · subst e
     have := h4 l[k] (by rw [Nat.add_sub_cancel]; exact hk) (by omega)
     rw [if_neg (by rw [this]; decide)]
   · rw [if_pos (h3 k _ (by omega) (by omega) hk)]
     exact zta (by omega) (by omega) (fun q y a b c => h3 q y a (by omega) c) h4
theorem yd0 (l : List α) (x : α) : (zqe lt l x).Perm (x :: l) := by
 unfold zqe
 refine List.perm_middle.trans ?_
 rw [List.take_append_drop]
theorem zl3 (l : List α) (x : α) : zhb lt (l ++ [x]) = zqe lt (zhb lt l) x := by
 unfold zhb
 rw [List.foldl_append]; rfl
theorem zqk (l : List α) : (zhb lt l).Perm l := by
 have key : ∀ (l acc : List α), (l.foldl (zqe lt) acc).Perm (acc ++ l) := by
   intro l
   induction l with
   | nil => intro acc; simp
   | cons x l ih =>
     intro acc
     refine (ih _).trans ?_
     refine ((yd0 lt acc x).append_right l).trans ?_
     exact (List.perm_middle (l₁ := acc) (l₂ := l) (a := x)).symm
 exact key l []
theorem zoo (l : List α) : (zhb lt l).length = l.length := (zqk lt l).length_eq
theorem zki {l : List α} {x : α} : x ∈ zhb lt l ↔ x ∈ l := (zqk lt l).mem_iff
theorem zi5 {l : List α} {i : Nat} (hi : i < l.length) : zhb lt (l.take (i + 1)) = zqe lt (zhb lt (l.take i)) l[i] := by
 rw [List.take_succ_eq_append_getElem hi, zl3]
theorem yho (l : List α) : zhb lt (l.take 1) ++ l.drop 1 = l := by
 cases l with
 | nil => rfl
 | cons x l => simp [zhb, zqe, zqf]
def zqu (m : List α) (x : α) (j : Nat) (r : List α) : List α := m.take j ++ x :: (m.drop j ++ r)
omit lt in
theorem yib (m : List α) (x : α) (j : Nat) (r : List α) : (zqu m x j r).length = m.length + 1 + r.length := by
 unfold zqu
 rw [List.length_append, List.length_cons, List.length_append, List.length_take, List.length_drop]
 omega
omit lt in
theorem yic (m : List α) (x : α) (r : List α) : zqu m x m.length r = m ++ x :: r := by
 unfold zqu
 rw [List.take_length, List.drop_length, List.nil_append]
omit lt in
theorem ycl {m : List α} {x : α} {j : Nat} {r : List α} (hj : j <= m.length) : (zqu m x j r)[j]? = some x := by
 unfold zqu
 rw [List.getElem?_append_right (by rw [List.length_take]; omega), List.length_take, Nat.min_eq_left hj, Nat.sub_self]
 rfl
omit lt in
theorem zld {m : List α} {x : α} {j q : Nat} {r : List α} (hj : j <= m.length) (hq : q < j) : (zqu m x j r)[q]? = m[q]? := by
 unfold zqu
 rw [List.getElem?_append_left (by rw [List.length_take]; omega), List.getElem?_take_of_lt hq]
omit lt in
theorem yck {m : List α} {x y : α} {j : Nat} {r : List α} (hj : j < m.length) (hy : m[j]? = some y) : ((zqu m x (j + 1) r).set (j + 1) y).set j x = zqu m x j r := by
 have hl : (m.take j).length = j := by rw [List.length_take]; omega
 have hm : m.drop j = y :: m.drop (j + 1) := by
   rw [List.drop_eq_getElem_cons hj]
   rw [List.getElem?_eq_getElem hj] at hy
   rw [Option.some.inj hy]
 have ht : m.take (j + 1) = m.take j ++ [y] := by
   rw [List.take_add_one, hy]; rfl
 have e1 : zqu m x (j + 1) r = m.take j ++ y :: x :: (m.drop (j + 1) ++ r) := by
   unfold zqu; rw [ht, List.append_assoc]; rfl
 rw [e1]
 rw [List.set_append, if_neg (by omega), hl, Nat.add_sub_cancel_left]
 rw [List.set_append, if_neg (by omega), hl, Nat.sub_self]
 unfold zqu
 rw [hm]
 rfl
theorem ycz {m : List α} {x : α} {j : Nat} {r : List α} (hj : j <= m.length) (h3 : ∀ q y, j <= q -> q < m.length -> m[q]? = some y -> lt x y = true) (h4 : ∀ y, m[j - 1]? = some y -> 0 < j -> lt x y = false) : zqu m x j r = zqe lt m x ++ r := by
 unfold zqe
 rw [zta lt hj (Nat.le_refl _) h3 h4]
 unfold zqu
 rw [List.append_assoc, List.cons_append]
def yhs (l : List α) (i : Nat) : List α := zhb lt (l.take i) ++ l.drop i
theorem yhq (l : List α) : yhs lt l 1 = l := yho lt l
theorem yhr {l : List α} {i : Nat} (h : l.length <= i) : yhs lt l i = zhb lt l := by
 unfold yhs
 rw [List.take_of_length_le h, List.drop_of_length_le h, List.append_nil]
def zhz (l : List α) (d : α) (i j : Nat) : List α := zqu (zhb lt (l.take i)) (l.getD i d) j (l.drop (i + 1))
def zjd (l : List α) (d : α) (i j : Nat) : Prop := j <= i /\ ∀ q y, j <= q -> q < i -> (zhb lt (l.take i))[q]? = some y -> lt (l.getD i d) y = true
omit lt in
theorem zpp {l : List α} {d : α} {i : Nat} (hi : i < l.length) : l.getD i d = l[i] := by
 rw [List.getD_eq_getElem?_getD, List.getElem?_eq_getElem hi]; rfl
theorem zi4 {l : List α} {i : Nat} (hi : i <= l.length) : (zhb lt (l.take i)).length = i := by
 rw [zoo, List.length_take]; omega
theorem zv7 {l : List α} {d : α} {i j : Nat} (hi : i < l.length) : (zhz lt l d i j).length = l.length := by
 unfold zhz
 rw [yib, zi4 lt (by omega), List.length_drop]; omega
theorem zxs {l : List α} {d : α} {i : Nat} (hi : i < l.length) : zhz lt l d i i = yhs lt l i /\ zjd lt l d i i := by
 refine ⟨?_, Nat.le_refl _, fun q y h1 h2 => by omega⟩
 have := yic (zhb lt (l.take i)) (l.getD i d) (l.drop (i + 1))
 rw [zi4 lt (by omega)] at this
 unfold zhz yhs
 rw [this, zpp hi, <- List.drop_eq_getElem_cons hi]
theorem ybi {l : List α} {d : α} {i j : Nat} (hi : i < l.length) (h : zjd lt l d i j) (h4 : 0 < j -> ∀ y, (zhb lt (l.take i))[j - 1]? = some y -> lt (l.getD i d) y = false) : zhz lt l d i j = yhs lt l (i + 1) := by
 have hl := zi4 lt (show i <= l.length by omega)
 unfold zhz yhs
 rw [ycz lt (by rw [hl]; exact h.1) (fun q y a b c => h.2 q y a (by omega) c) (fun y a b => h4 b y a), zi5 lt hi, zpp hi]
theorem ybh {l : List α} {d : α} {i j : Nat} (hi : i < l.length) (h : zjd lt l d i (j + 1)) (hlt : lt ((zhz lt l d i (j + 1)).getD (j + 1) d) ((zhz lt l d i (j + 1)).getD j d) = true) :
   (((zhz lt l d i (j + 1)).set (j + 1) ((zhz lt l d i (j + 1)).getD j d)).set j ((zhz lt l d i (j + 1)).getD (j + 1) d) = zhz lt l d i j) /\ zjd lt l d i j := by
 have hl := zi4 lt (show i <= l.length by omega)
 have h1 := h.1
 obtain ⟨y, hy⟩ : ∃ y, (zhb lt (l.take i))[j]? = some y := ⟨_, List.getElem?_eq_getElem (by omega)⟩
 have e1 : (zhz lt l d i (j + 1)).getD (j + 1) d = l.getD i d := by
   rw [List.getD_eq_getElem?_getD]
   unfold zhz
   rw [ycl (by omega)]; rfl
 have e2 : (zhz lt l d i (j + 1)).getD j d = y := by
   rw [List.getD_eq_getElem?_getD]
   unfold zhz
   rw [zld (by omega) (by omega), hy]; rfl
 rw [e1, e2] at hlt |-
 refine ⟨?_, by omega, fun q z a b c => ?_⟩
 · unfold zhz
   exact yck (by omega) hy
 · by_cases e : q = j
   · subst e
     rw [hy] at c
     cases c
     exact hlt
   · exact h.2 q z (by omega) b c
theorem zql {l : List α} {d : α} {i j : Nat} (hi : i < l.length) (h : zjd lt l d i j) (hlt : 0 < j -> lt ((zhz lt l d i j).getD j d) ((zhz lt l d i j).getD (j - 1) d) = false) : zhz lt l d i j = yhs lt l (i + 1) := by
 have hl := zi4 lt (show i <= l.length by omega)
 have h1 := h.1
 refine ybi lt hi h fun hj y hy => ?_
 have h2 := hlt hj
 have e1 : (zhz lt l d i j).getD j d = l.getD i d := by
   rw [List.getD_eq_getElem?_getD]
   unfold zhz
   rw [ycl (by omega)]; rfl
 have e2 : (zhz lt l d i j).getD (j - 1) d = y := by
   rw [List.getD_eq_getElem?_getD]
   unfold zhz
   rw [zld (by omega) (by omega), hy]; rfl
 rw [e1, e2] at h2
 exact h2
theorem yhp {l : List α} {d : α} {i j q : Nat} (hi : i < l.length) (hq : q < l.length) : (zhz lt l d i j).getD q d ∈ l := by
 have hlen := zv7 lt (d := d) (j := j) hi
 rw [zpp (by omega)]
 have hm : (zhz lt l d i j)[q]'(by omega) ∈ zhz lt l d i j := List.getElem_mem _
 unfold zhz zqu at hm
 rw [List.mem_append, List.mem_cons, List.mem_append] at hm
 have hT : ∀ z, z ∈ zhb lt (l.take i) -> z ∈ l := fun z hz => List.mem_of_mem_take ((zki lt).1 hz)
 rcases hm with h | h | h | h
 · exact hT _ (List.mem_of_mem_take h)
 · rw [show (zhz lt l d i j)[q]'(by omega) = l.getD i d from h, zpp hi]; exact List.getElem_mem _
 · exact hT _ (List.mem_of_mem_drop h)
 · exact List.mem_of_mem_drop h
end
theorem ybq {α : Type} {V : Vw α} {l : List α} {e q : Nat} {x : α} (hq : q < l.length) : zi0 V (l.set e x) q = if e = q then x else zi0 V l q := by
 rw [zas (by rw [List.length_set]; exact hq), zas hq, List.getElem_set]
end Sy
end Go.Proofs.YtogpolfhcbgcbaaGreatDoor
namespace Go.Proofs.YtogpolfhcbgcbaaGreatDoor
namespace Sy
open Go Go.RowKit
set_option maxRecDepth 100000
set_option maxHeartbeats 4000000
set_option linter.unusedSimpArgs false
set_option linter.unusedVariables false
abbrev Iz := Int
def izC (L : zab) (x : Iz) (j : Nat) : AV := .int .i64 x
def izV : Vw Iz := ⟨1, izC, fun c => (c 0).toI, fun c => ∃ n, c 0 = .int .i64 n, 0⟩
theorem znw : zso izV := by
 refine ⟨fun c hc j hj h D μ v r => ?_, fun c x hx => ?_⟩
 · obtain ⟨s, hs⟩ := hc
   have hj : j < 1 := hj
   obtain rfl : j = 0 := by omega
   show R h D μ (.int .i64 (c 0).toI) v
   rw [hs] at r |-
   exact r
 · have h0 : c 0 = .int .i64 x := hx 0 (by decide)
   refine ⟨⟨x, h0⟩, ?_⟩
   show (c 0).toI = x
   rw [h0]; rfl
def zak (l : List Iz) (i : Nat) : Iz := zi0 izV l i
def yje (L : zab) (l : List Iz) : AV := .lst 1 (L zbl l) (fun i => izC L (L (L zak l) i))
def ydi (x : AV) : Prop := okW izV x
def zt5 (x : AV) : List Iz := rdW izV x
structure Mc where
 y : Ls
 host : List UInt8
 path : List UInt8
def mcB (c : Mc) : Mb := ⟨c.y.rs, c.host, c.path⟩
def zz5 (c : Mc) : Prop := ym4 (mcB c)
def mcE (c : Mc) (a : Int) : Prop := 0 <= a /\ a < c.y.rs.length
noncomputable def mcZ (c : Mc) (a b : Int) : Int := ymt (fOf (rk1 (mbQ (mcB c) b.toNat))) (fOf (rk2 (mbQ (mcB c) b.toNat))) (fOf (rk1 (mbQ (mcB c) a.toNat))) (fOf (rk2 (mbQ (mcB c) a.toNat)))
def mcO (L : zab) (c : Mc) : List (Nat × Ob) := [(500001, .box 28 [lsC L (L Mc.y c) 0, lsC L (L Mc.y c) 1, lsC L (L Mc.y c) 2, lsC L (L Mc.y c) 3, lsC L (L Mc.y c) 4, lsC L (L Mc.y c) 5, lsC L (L Mc.y c) 6]), (500002, .box 9 [.str (L Mc.host c)]), (500003, .box 9 [.str (L Mc.path c)])]
noncomputable def yw5 (c : Mc) (L : zab) : zog := (40, fun raw ob => match raw with
 | [.int .i64 a, .int .i64 b, .ref k1 0, .ref k2 0, .ref k3 0] => some ⟨[.int .i64 a, .int .i64 b, .ref 500001 0, .ref 500002 0, .ref 500003 0], mcO L c, L zz5 c /\ L2 L mcE c a /\ L2 L mcE c b, .int .i64 (L3 L mcZ c a b), mcO L c⟩
 | _ => none)
theorem zwa (c : Mc) : zg9 Tryz.prog (yw5 c std) := by
 intro raw ob T h hp
 unfold yw5 at h
 simp only at h
 split at h
 rotate_left
 · cases h
 rename_i a b k1 k2 k3
 cases h
 obtain ⟨hok, ha, hb⟩ : zz5 c /\ mcE c a /\ mcE c b := hp
 refine zbc (T := tt) (S := fun L => zca [ycm L, yiq L] []) (lo := noA) (lb := noA) 5 (fn := Tryz.f40) (xs := fun L => [.int .i64 a, .int .i64 b, .ref 500001 0, .ref 500002 0, .ref 500003 0]) (rts := fun L => [.int .i64 (L3 L mcZ c a b)]) (O := fun L => mcO L c) (O1 := fun L => mcO L c) rfl rfl (by kernel_rfl) (by kernel_rfl) (by kernel_rfl) zac (zaw ⟨zou, zvp, trivial⟩ trivial) (by kernel_rfl) ?_
 intro L P' Q' hL hP hQ
 (cbv; try simp only [syT, true_and, and_true])
 subst hL
 have hq : ∀ i : Int, mcE c i -> zmy (mbQ (mcB c) i.toNat) := fun i hi => zk8 hok (by have := hi.1; have := hi.2; show i.toNat < c.y.rs.length; omega)
 obtain ⟨ra1, ra2⟩ := zt0 (hq a ha)
 obtain ⟨rb1, rb2⟩ := zt0 (hq b hb)
 have hR : ∀ i : Int, mcE c i -> inR i (za7 c.y.rs.length) = true := fun i hi => by
   rw [zn1, za1]
   exact hi
 exact ⟨hR b hb, hq b hb, hR a ha, hq a ha, ⟨⟨zgn rb1, zgn rb2⟩, zgn ra1, zgn ra2⟩, fun _ _ _ _ => trivial, rfl⟩
noncomputable def ltC (c : Mc) (a b : Int) : Bool := ilt (mcZ c a b) 0
noncomputable def zl4 (c : Mc) (l : List Iz) (i : Nat) : List Iz := yhs (ltC c) l i
noncomputable def zd3 (c : Mc) (l : List Iz) (i j : Nat) : List Iz := zhz (ltC c) l 0 i j
noncomputable def zn9 (c : Mc) (l : List Iz) : List Iz := zhb (ltC c) l
def insI (l : List Iz) (i : Nat) : Prop := 1 <= i /\ (i <= l.length \/ i = 1)
def zty (l : List Iz) (i : Nat) : Nat := l.length + 1 - i
noncomputable def insJ (c : Mc) (l : List Iz) (i j : Nat) : Prop := zjd (ltC c) l 0 i j
def jMu (j : Nat) : Nat := j
def zhj (L : zab) (n : Nat) (l : List Iz) : Nat × Ob := (500000, .row 3 1 n (fun q => izC L (L (L zak l) q)))
def zu3 (n : Nat) (x y : Int) : List AV := [.sl 500000 1 0 n, .int .i64 x, .int .i64 y, .fn 40 [] [.ref 500001 0, .ref 500002 0, .ref 500003 0]]
noncomputable def insA (L : zab) (c : Mc) (l : List Iz) (n : Nat) : Nat -> St -> Option Ann := fun id st => match id with
 | 0 => some ⟨Nat, fun i => [(8, .int .i64 (L za7 i))], fun i => [zhj L n (L3 L zl4 c l i)], [0, 1, 2, 3], [500001, 500002, 500003], fun i => L2 L insI l i, fun i => L2 L zty l i⟩
 | 2 => zom st 8 fun s => some ⟨Nat, fun j => [(9, .int .i64 (L za7 j))], fun j => [zhj L n (L (L3 L zd3 c l (L Int.toNat s)) j)], [0, 1, 2, 3, 8], [500001, 500002, 500003], fun j => L (L3 L insJ c l (L Int.toNat s)) j, fun j => L jMu j⟩
 | _ => none
theorem zd0 {i n : Nat} (h : i < n) (hz : n <= 1000001) : zfi .i64 (za7 i) 1 = za7 (i + 1) := by
 unfold za7; rw [zfi, zha]; omega
theorem yeb {i n : Nat} (h : 0 < i) (h2 : i <= n) (hz : n <= 1000000) : zj7 .i64 (za7 i) 1 = za7 (i - 1) := by
 unfold za7; rw [zj7, zha]; omega
theorem zf9 {i n : Nat} (h : i < n) : inR (za7 i) (za7 n) = true := by
 rw [zn1, za1, za1]; omega
theorem zwo (l : List Iz) (q : Nat) : zak l q = l.getD q 0 := rfl
theorem ysk (l : List Iz) (k q j : Nat) (hk : k + 1 < l.length) (hq : q < l.length) (hj : j < 1) : over std k 0 1 [.int .i64 (zak l (k + 1))] (over std (k + 1) 0 1 [.int .i64 (zak l k)] (fun q => izC std (zak l q))) q j = izC std (zak ((l.set (k + 1) (l.getD k 0)).set k (l.getD (k + 1) 0)) q) j := by
 obtain rfl : j = 0 := by omega
 have e1 : zak ((l.set (k + 1) (l.getD k 0)).set k (l.getD (k + 1) 0)) q = if k = q then l.getD (k + 1) 0 else if k + 1 = q then l.getD k 0 else zak l q := by
   show zi0 izV _ q = _
   rw [ybq (by rw [List.length_set]; exact hq), ybq hq]
   rfl
 rw [e1, zgz, zgz, if_pos ⟨Nat.le_refl 0, by omega⟩, if_pos ⟨Nat.le_refl 0, by omega⟩]
 by_cases h1 : q = k
 · subst h1
   rw [if_pos rfl, za6]; rfl
 · rw [if_neg (fun h => h1 h.symm), zan h1]
   by_cases h2 : q = k + 1
   · subst h2
     rw [if_pos rfl, za6]; rfl
   · rw [if_neg (fun h => h2 h.symm), zan h2]; rfl
theorem yp8 {c : Mc} {l : List Iz} {n : Nat} (hc : zz5 c) (hn : n = l.length) (hz : n <= 1000000) (hE : ∀ a ∈ l, mcE c a) : zbj Tryz.prog 73 (zu3 n 0 n) (zhj std n l :: mcO std c) (.tup []) (zhj std n (zn9 c l) :: mcO std c) := by
 refine zbc (T := tt) (S := fun L => zca [] [yw5 c L]) (lo := fun L => insA L c l n) (lb := noA) 5 (fn := Tryz.f73) (xs := fun L => zu3 n 0 (L za7 n)) (rts := fun L => []) (O := fun L => zhj L n l :: mcO L c) (O1 := fun L => zhj L n (L2 L zn9 c l) :: mcO L c) rfl rfl (by kernel_rfl) (by kernel_rfl) (by kernel_rfl) zac (zaw trivial ⟨zwa c, trivial⟩) (by kernel_rfl) ?_
 intro L P' Q' hL hP hQ
 (cbv; try simp only [syT, true_and, and_true])
 refine ⟨⟨1, ?_⟩, fun i hi => ?_⟩
 · (cbv; try simp only [syT, true_and, and_true])
   subst hL
   refine ⟨fun _ _ _ _ => trivial, ?_, rfl, ?_⟩
   · intro q j hq hj
     have h : zl4 c l 1 = l := yhq _ _
     show izC std (zak l q) j = izC std (zak (zl4 c l 1) q) j
     rw [h]
   · exact ⟨Nat.le_refl 1, Or.inr rfl⟩
 · have hi2 : insI l i := by
     have h := hi
     rw [hL] at h
     exact h
   clear hi
   (cbv; try simp only [syT, true_and, and_true])
   refine ⟨fun hlt => ⟨⟨i, ?_⟩, fun j hj => ?_⟩, fun hlt => ?_⟩
   · have hin : i < n := by
       have h := hlt
       rw [hL] at h
       have h2 : ilt (za7 i) (za7 n) = true := h
       rw [zcp, za1, za1] at h2; omega
     have hil : i < l.length := by omega
     (cbv; try simp only [syT, true_and, and_true])
     subst hL
     obtain ⟨g1, g2⟩ := zxs (ltC c) (d := 0) hil
     refine ⟨fun _ _ _ _ => trivial, ?_, g2⟩
     intro q j hq hj
     have h : zd3 c l i i = zl4 c l i := g1
     show izC std (zak (zl4 c l i) q) j = izC std (zak (zd3 c l i i) q) j
     rw [h]
   · have hj2 : insJ c l i j := by
       have h := hj
       rw [hL] at h
       exact h
     clear hj
     have hin : i < n := by
       have h := hlt
       rw [hL] at h
       have h2 : ilt (za7 i) (za7 n) = true := h
       rw [zcp, za1, za1] at h2; omega
     have hil : i < l.length := by omega
     have hji : j <= i := hj2.1
     have hlen : ∀ j, (zd3 c l i j).length = l.length := fun j => zv7 (ltC c) hil
     have hmem : ∀ q, q < n -> mcE c (zak (zd3 c l i j) q) := fun q hq => hE _ (yhp (ltC c) hil (by omega))
     (cbv; try simp only [syT, true_and, and_true])
     refine ⟨fun h0 => ?_, fun h0 => ⟨i + 1, ?_⟩⟩
     · have hj0 : 0 < j := by
         have h := h0
         rw [hL] at h
         have h2 : ilt 0 (za7 j) = true := h
         rw [zcp, za1] at h2; omega
       have e1 : zj7 .i64 (za7 j) 1 = za7 (j - 1) := yeb hj0 (show j <= n by omega) hz
       have e2 : Nat.add 0 (Int.toNat (za7 j)) = j := by rw [zmx]; rfl
       have e3 : Nat.add 0 (Int.toNat (zj7 .i64 (za7 j) 1)) = j - 1 := by rw [zmx, e1]; rfl
       have r1 : L2 L inR (L za7 j) (L za7 n) = true := by rw [hL]; exact zf9 (by omega)
       have r2 : L2 L inR (L2 L (zj7 IntKind.i64) (L za7 j) 1) (L za7 n) = true := by
         rw [hL]
         show inR (zj7 .i64 (za7 j) 1) (za7 n) = true
         rw [e1]; exact zf9 (by omega)
       refine ⟨r1, r2, fun _ _ _ _ => trivial, ⟨by rw [hL]; exact hc, ?_, ?_⟩, fun hlt2 => ⟨r2, r1, r1, r2, j - 1, ?_⟩, fun hge => ⟨i + 1, ?_⟩⟩
       · rw [hL]
         show mcE c (zak (zd3 c l i j) (Nat.add 0 (Int.toNat (za7 j))))
         rw [e2]; exact hmem j (by omega)
       · rw [hL]
         show mcE c (zak (zd3 c l i j) (Nat.add 0 (Int.toNat (zj7 .i64 (za7 j) 1))))
         rw [e3]; exact hmem (j - 1) (by omega)
       · (cbv; try simp only [syT, true_and, and_true])
         subst hL
         obtain ⟨k, rfl⟩ : ∃ k, j = k + 1 := ⟨j - 1, by omega⟩
         have hl3 : ltC c ((zd3 c l i (k + 1)).getD (k + 1) 0) ((zd3 c l i (k + 1)).getD k 0) = true := by
           have h : ilt (mcZ c (zak (zd3 c l i (k + 1)) (Nat.add 0 (Int.toNat (za7 (k + 1))))) (zak (zd3 c l i (k + 1)) (Nat.add 0 (Int.toNat (zj7 .i64 (za7 (k + 1)) 1))))) 0 = true := hlt2
           rw [e2, e3] at h
           exact h
         obtain ⟨g1, g2⟩ := ybh (ltC c) hil hj2 hl3
         refine ⟨fun _ _ _ _ => trivial, ?_, e1, g2, Nat.lt_succ_self k⟩
         intro q j hq hj
         show over std (Nat.add 0 (Int.toNat (zj7 .i64 (za7 (k + 1)) 1))) 0 1 [.int .i64 (zak (zd3 c l i (k + 1)) (Nat.add 0 (Int.toNat (za7 (k + 1)))))] (over std (Nat.add 0 (Int.toNat (za7 (k + 1)))) 0 1 [.int .i64 (zak (zd3 c l i (k + 1)) (Nat.add 0 (Int.toNat (zj7 .i64 (za7 (k + 1)) 1))))] (fun q => izC std (zak (zd3 c l i (k + 1)) q))) q j = izC std (zak (zd3 c l i k) q) j
         rw [e2, e3]
         have h := ysk (zd3 c l i (k + 1)) k q j (by rw [hlen]; omega) (by rw [hlen]; omega) hj
         refine h.trans ?_
         rw [show (((zd3 c l i (k + 1)).set (k + 1) ((zd3 c l i (k + 1)).getD k 0)).set k ((zd3 c l i (k + 1)).getD (k + 1) 0)) = zd3 c l i k from g1]
       · (cbv; try simp only [syT, true_and, and_true])
         subst hL
         have hl3 : ltC c ((zd3 c l i j).getD j 0) ((zd3 c l i j).getD (j - 1) 0) = false := by
           have h : ilt (mcZ c (zak (zd3 c l i j) (Nat.add 0 (Int.toNat (za7 j)))) (zak (zd3 c l i j) (Nat.add 0 (Int.toNat (zj7 .i64 (za7 j) 1))))) 0 = false := hge
           rw [e2, e3] at h
           exact h
         have g1 := zql (ltC c) hil hj2 (fun _ => hl3)
         refine ⟨fun _ _ _ _ => trivial, ?_, zd0 hin (by omega), ⟨by omega, Or.inl (by omega)⟩, show zty l (i + 1) < zty l i by unfold zty; omega⟩
         intro q j2 hq hj
         show izC std (zak (zd3 c l i j) q) j2 = izC std (zak (zl4 c l (i + 1)) q) j2
         rw [show zd3 c l i j = zl4 c l (i + 1) from g1]
     · have hj0 : j = 0 := by
         have h := h0
         rw [hL] at h
         have h2 : ilt 0 (za7 j) = false := h
         rw [zeh, za1] at h2; omega
       (cbv; try simp only [syT, true_and, and_true])
       subst hL
       have g1 := zql (ltC c) hil hj2 (fun h => by omega)
       refine ⟨fun _ _ _ _ => trivial, ?_, zd0 hin (by omega), ⟨by omega, Or.inl (by omega)⟩, show zty l (i + 1) < zty l i by unfold zty; omega⟩
       intro q j2 hq hj
       show izC std (zak (zd3 c l i j) q) j2 = izC std (zak (zl4 c l (i + 1)) q) j2
       rw [show zd3 c l i j = zl4 c l (i + 1) from g1]
   · (cbv; try simp only [syT, true_and, and_true])
     subst hL
     refine ⟨fun _ _ _ _ => trivial, ?_⟩
     intro q j hq hj
     have hni : l.length <= i := by
       have h2 : ilt (za7 i) (za7 n) = false := hlt
       rw [zeh, za1, za1] at h2; omega
     have h : zl4 c l i = zn9 c l := yhr (ltC c) hni
     show izC std (zak (zl4 c l i) q) j = izC std (zak (zn9 c l) q) j
     rw [h]
noncomputable def insN (L : zab) (c : Mc) (l : List Iz) (n : Nat) : Nat -> St -> Option Ann := fun id st => match id with
 | 0 => some ⟨Nat, fun i => [(8, .int .i64 (L2 L (zfi .i64) (L za7 n) 1))], fun i => [zhj L n l], [0, 1, 2, 3], [500001, 500002, 500003], fun _ => True, fun _ => 0⟩
 | _ => none
theorem yp7 {c : Mc} {l : List Iz} {n : Nat} (hz : n <= 1000000) : zbj Tryz.prog 73 (zu3 n n n) (zhj std n l :: mcO std c) (.tup []) (zhj std n l :: mcO std c) := by
 refine zbc (T := tt) (S := fun L => zca [] [yw5 c L]) (lo := fun L => insN L c l n) (lb := noA) 5 (fn := Tryz.f73) (xs := fun L => zu3 n (L za7 n) (L za7 n)) (rts := fun L => []) (O := fun L => zhj L n l :: mcO L c) (O1 := fun L => zhj L n l :: mcO L c) rfl rfl (by kernel_rfl) (by kernel_rfl) (by kernel_rfl) zac (zaw trivial ⟨zwa c, trivial⟩) (by kernel_rfl) ?_
 intro L P' Q' hL hP hQ
 (cbv; try simp only [syT, true_and, and_true])
 refine ⟨⟨0, ?_⟩, fun i _ => ?_⟩
 · (cbv; try simp only [syT, true_and, and_true])
   exact ⟨fun _ _ _ _ => trivial, fun _ _ _ _ => trivial⟩
 · (cbv; try simp only [syT, true_and, and_true])
   refine ⟨fun hlt => ?_, fun hlt => ?_⟩
   · exfalso
     rw [hL] at hlt
     have h2 : ilt (zfi .i64 (za7 n) 1) (za7 n) = true := hlt
     rw [zcp, zd0 (Nat.lt_succ_self n) (show n + 1 <= 1000001 by omega), za1, za1] at h2; omega
   · (cbv; try simp only [syT, true_and, and_true])
     exact ⟨fun _ _ _ _ => trivial, fun _ _ _ _ => trivial⟩
noncomputable def pkZ (c : Mc) (l : List Iz) (a : Int) : List Iz := if a = 0 then l else zn9 c l
noncomputable def yxv (c : Mc) (l : List Iz) (n : Nat) (L : zab) : zog := (73, fun raw ob => match raw with
 | [.sl k 1 0 n', .int .i64 a, .int .i64 b, .fn f [] [.ref k1 0, .ref k2 0, .ref k3 0]] => some ⟨zu3 n a b, zhj L n (L3 L pkZ c l a) :: mcO L c, (a = 0 \/ a = L za7 n) /\ b = L za7 n, .tup [], zhj L n (L2 L zn9 c l) :: mcO L c⟩
 | _ => none)
theorem yef {c : Mc} {l : List Iz} {n : Nat} (hc : zz5 c) (hn : n = l.length) (hz : n <= 1000000) (hE : ∀ a ∈ l, mcE c a) : zg9 Tryz.prog (yxv c l n std) := by
 intro raw ob T h hp
 unfold yxv at h
 simp only at h
 split at h
 rotate_left
 · cases h
 rename_i k n' a b f k1 k2 k3
 cases h
 obtain ⟨ha, hb⟩ : (a = 0 \/ a = za7 n) /\ b = za7 n := hp
 subst hb
 by_cases h0 : a = 0
 · subst h0
   have e : pkZ c l 0 = l := if_pos rfl
   show zbj Tryz.prog 73 (zu3 n 0 n) (zhj std n (pkZ c l 0) :: mcO std c) (.tup []) (zhj std n (zn9 c l) :: mcO std c)
   rw [e]
   exact yp8 hc hn hz hE
 · have ha : a = za7 n := ha.resolve_left h0
   have e : pkZ c l a = zn9 c l := if_neg h0
   show zbj Tryz.prog 73 (zu3 n a n) (zhj std n (pkZ c l a) :: mcO std c) (.tup []) (zhj std n (zn9 c l) :: mcO std c)
   rw [e, ha]
   exact yp7 hz
def st20 (k : Nat) : Nat := 20 * k
def ybd (k : Nat) : Nat := 20 * k + 20
def ysn (n k : Nat) : Prop := k = 0 \/ (k = 1 /\ n = 20)
def stMu (k : Nat) : Nat := 2 - k
noncomputable def ybc (c : Mc) (l : List Iz) (k : Nat) : List Iz := pkZ c l (st20 k)
def ybe (n : Nat) (x : Int) : List AV := [.sl 500000 1 0 n, .int .i64 x, .fn 40 [] [.ref 500001 0, .ref 500002 0, .ref 500003 0]]
noncomputable def stbA (L : zab) (c : Mc) (l : List Iz) (n : Nat) : Nat -> St -> Option Ann := fun id st => match id with
 | 0 => some ⟨Nat, fun k => [(7, .int .i64 (L za7 (L st20 k))), (8, .int .i64 (L za7 (L ybd k)))], fun k => [zhj L n (L3 L ybc c l k)], [0, 1, 2, 6], [500001, 500002, 500003], fun k => L2 L ysn n k, fun k => L stMu k⟩
 | 2 => some ⟨Nat, fun k => [], fun k => [zhj L n (L2 L zn9 c l)], [0, 1, 2, 6], [500001, 500002, 500003], fun _ => True, fun _ => 0⟩
 | _ => none
theorem ysm {c : Mc} {l : List Iz} {n : Nat} (hc : zz5 c) (hn : n = l.length) (hz : n <= 20) (hE : ∀ a ∈ l, mcE c a) : zbj Tryz.prog 59 (ybe n n) (zhj std n l :: mcO std c) (.tup []) (zhj std n (zn9 c l) :: mcO std c) := by
 refine zbc (T := tt) (S := fun L => zca [] [yxv c l n L]) (lo := fun L => stbA L c l n) (lb := noA) 5 (fn := Tryz.f59) (xs := fun L => ybe n (L za7 n)) (rts := fun L => []) (O := fun L => zhj L n l :: mcO L c) (O1 := fun L => zhj L n (L2 L zn9 c l) :: mcO L c) rfl rfl (by kernel_rfl) (by kernel_rfl) (by kernel_rfl) zac (zaw trivial ⟨yef hc hn (by omega) hE, trivial⟩) (by kernel_rfl) ?_
 intro L P' Q' hL hP hQ
 (cbv; try simp only [syT, true_and, and_true])
 refine ⟨⟨0, ?_⟩, fun k hk => ?_⟩
 · (cbv; try simp only [syT, true_and, and_true])
   subst hL
   refine ⟨fun _ _ _ _ => trivial, ?_, rfl, rfl, Or.inl rfl⟩
   intro q j hq hj
   show izC std (zak l q) j = izC std (zak (ybc c l 0) q) j
   rw [show ybc c l 0 = l from (show pkZ c l 0 = l from if_pos rfl)]
 · have hk2 : ysn n k := by
     have h := hk
     rw [hL] at h
     exact h
   clear hk
   (cbv; try simp only [syT, true_and, and_true])
   refine ⟨fun hle => ?_, fun hgt => ?_⟩
   · have h20 : k = 0 /\ n = 20 := by
       have h := hle
       rw [hL] at h
       have h2 : ile (za7 (ybd k)) (za7 n) = true := h
       rw [yem, za1, za1] at h2
       unfold ybd at h2
       rcases hk2 with h3 | ⟨h3, h4⟩ <;> omega
     refine ⟨fun _ _ _ _ => trivial, by rw [hL]; exact fun _ _ _ _ => rfl, ?_, 1, ?_⟩
     · rw [hL]
       obtain ⟨rfl, h5⟩ := h20
       rw [h5]
       exact ⟨Or.inl rfl, rfl⟩
     · (cbv; try simp only [syT, true_and, and_true])
       subst hL
       obtain ⟨rfl, h5⟩ := h20
       refine ⟨fun _ _ _ _ => trivial, ?_, by rfl, rfl, Or.inr ⟨rfl, h5⟩, show 1 < 2 by decide⟩
       intro q j hq hj
       show izC std (zak (zn9 c l) q) j = izC std (zak (ybc c l 1) q) j
       rw [show ybc c l 1 = zn9 c l from (show pkZ c l 20 = zn9 c l from if_neg (by decide))]
   · have h21 : n = 20 \/ k = 0 := by
       rcases hk2 with h3 | ⟨h3, h4⟩ <;> omega
     refine ⟨fun _ _ _ _ => trivial, by rw [hL]; exact fun _ _ _ _ => rfl, ?_, ⟨0, ?_⟩, fun x _ => ?_⟩
     · rw [hL]
       rcases hk2 with h3 | ⟨h3, h4⟩
       · rw [h3]; exact Or.inl rfl
       · rw [h3, h4]; exact Or.inr rfl
     · (cbv; try simp only [syT, true_and, and_true])
       exact ⟨fun _ _ _ _ => trivial, fun _ _ _ _ => trivial⟩
     · (cbv; try simp only [syT, true_and, and_true])
       refine ⟨fun h20 => ?_, fun _ => ⟨fun _ _ _ _ => trivial, fun _ _ _ _ => trivial⟩⟩
       rw [hL] at h20
       have h2 : ilt 20 (za7 n) = true := h20
       rw [zcp, za1] at h2
       omega
noncomputable def ywo (c : Mc) (l : List Iz) (n : Nat) (L : zab) : zog := (59, fun raw ob => match raw with
 | [.sl k 1 0 n', .int .i64 a, .fn f [] [.ref k1 0, .ref k2 0, .ref k3 0]] => some ⟨ybe n a, zhj L n l :: mcO L c, a = L za7 n, .tup [], zhj L n (L2 L zn9 c l) :: mcO L c⟩
 | _ => none)
theorem ybb {c : Mc} {l : List Iz} {n : Nat} (hc : zz5 c) (hn : n = l.length) (hz : n <= 20) (hE : ∀ a ∈ l, mcE c a) : zg9 Tryz.prog (ywo c l n std) := by
 intro raw ob T h hp
 unfold ywo at h
 simp only at h
 split at h
 rotate_left
 · cases h
 rename_i k n' a f k1 k2 k3
 cases h
 have ha : a = za7 n := hp
 subst ha
 exact ysm hc hn hz hE
def ybf (n : Nat) : List AV := [.sl 500000 1 0 n, .fn 40 [] [.ref 500001 0, .ref 500002 0, .ref 500003 0]]
theorem ywq {c : Mc} {l : List Iz} {n : Nat} (hc : zz5 c) (hn : n = l.length) (hz : n <= 20) (hE : ∀ a ∈ l, mcE c a) : zbj Tryz.prog 39 (ybf n) (zhj std n l :: mcO std c) (.tup []) (zhj std n (zn9 c l) :: mcO std c) := by
 refine zbc (T := tt) (S := fun L => zca [] [ywo c l n L]) (lo := noA) (lb := noA) 5 (fn := Tryz.f39) (xs := fun L => ybf n) (rts := fun L => []) (O := fun L => zhj L n l :: mcO L c) (O1 := fun L => zhj L n (L2 L zn9 c l) :: mcO L c) rfl rfl (by kernel_rfl) (by kernel_rfl) (by kernel_rfl) zac (zaw trivial ⟨ybb hc hn hz hE, trivial⟩) (by kernel_rfl) ?_
 intro L P' Q' hL hP hQ
 (cbv; try simp only [syT, true_and, and_true])
 exact ⟨fun _ _ _ _ => trivial, fun _ _ _ _ => trivial, fun _ _ _ _ => trivial, fun _ _ _ _ => trivial⟩
end Sy
end Go.Proofs.YtogpolfhcbgcbaaGreatDoor
namespace Go.Proofs.YtogpolfhcbgcbaaGreatDoor
namespace Sy
open Go Go.RowKit
set_option maxRecDepth 100000
set_option linter.unusedSimpArgs false
set_option linter.unusedVariables false
section
variable {α : Type} {lt : α -> α -> Bool}
theorem zng {lt lt' : α -> α -> Bool} {x : α} {l : List α} (h : ∀ y ∈ l, lt x y = lt' x y) : ∀ k, zqf lt x l k = zqf lt' x l k
 | 0 => rfl
 | k + 1 => by
   unfold zqf
   cases e : l[k]? with
   | none => rfl
   | some y =>
     simp only
     rw [h y (List.mem_of_getElem? e), zng h k]
theorem zyp {lt lt' : α -> α -> Bool} {x : α} {l : List α} (h : ∀ y ∈ l, lt x y = lt' x y) : zqe lt l x = zqe lt' l x := by
 unfold zqe
 rw [zng h]
theorem zxr {lt lt' : α -> α -> Bool} {l : List α} (h : ∀ x ∈ l, ∀ y ∈ l, lt x y = lt' x y) : zhb lt l = zhb lt' l := by
 have key : ∀ i, i <= l.length -> zhb lt (l.take i) = zhb lt' (l.take i) := by
   intro i
   induction i with
   | zero => intro _; rfl
   | succ i ih =>
     intro hi
     rw [zi5 lt (by omega), zi5 lt' (by omega), ih (by omega)]
     refine zyp fun y hy => h _ (List.getElem_mem _) _ ?_
     exact List.mem_of_mem_take ((zki lt').1 hy)
 have := key l.length (Nat.le_refl _)
 rwa [List.take_length] at this
def ys2 (lt : α -> α -> Bool) (l : List α) : Prop := List.Pairwise (fun a b => lt b a = false) l
structure Wk (lt : α -> α -> Bool) : Prop where
 asym : ∀ a b, lt a b = true -> lt b a = false
 neg : ∀ a b c, lt b a = false -> lt c b = false -> lt c a = false
theorem zlk (x : α) (l : List α) : ∀ k, k <= l.length -> (∀ q y, zqf lt x l k <= q -> q < k -> l[q]? = some y -> lt x y = true) /\ (0 < zqf lt x l k -> ∀ y, l[zqf lt x l k - 1]? = some y -> lt x y = false)
 | 0, _ => ⟨fun q y h1 h2 => by omega, fun h => by cases h⟩
 | k + 1, hk => by
   obtain ⟨i1, i2⟩ := zlk x l k (by omega)
   have e : l[k]? = some l[k] := List.getElem?_eq_getElem (by omega)
   unfold zqf
   rw [e]
   simp only
   cases hlt : lt x l[k] with
   | true =>
     rw [if_pos rfl]
     refine ⟨fun q y h1 h2 h3 => ?_, i2⟩
     by_cases hq : q = k
     · subst hq
       rw [e] at h3; cases h3
       exact hlt
     · exact i1 q y h1 (by omega) h3
   | false =>
     rw [if_neg (by decide)]
     refine ⟨fun q y h1 h2 => by omega, fun _ y hy => ?_⟩
     rw [Nat.add_sub_cancel, e] at hy
     cases hy
     exact hlt
theorem yd2 (W : Wk lt) {l : List α} {x : α} (h : ys2 lt l) : ys2 lt (zqe lt l x) := by
 obtain ⟨h1, h2⟩ := zlk (lt := lt) x l l.length (Nat.le_refl _)
 have hle := zt9 lt x l l.length
 unfold zqe
 generalize zqf lt x l l.length = k at h1 h2 hle |-
 have hp : List.Pairwise (fun a b => lt b a = false) (l.take k ++ l.drop k) := by rw [List.take_append_drop]; exact h
 rw [List.pairwise_append] at hp
 obtain ⟨p1, p2, p3⟩ := hp
 have hd : ∀ y ∈ l.drop k, lt x y = true := by
   intro y hy
   obtain ⟨q, hq, rfl⟩ := List.getElem_of_mem hy
   rw [List.length_drop] at hq
   rw [List.getElem_drop]
   exact h1 (k + q) _ (by omega) (by omega) (List.getElem?_eq_getElem (by omega))
 have ht : ∀ y ∈ l.take k, lt x y = false := by
   intro y hy
   obtain ⟨q, hq, rfl⟩ := List.getElem_of_mem hy
   rw [List.length_take] at hq
   rw [List.getElem_take]
   have hk0 : 0 < k := by omega
   have hl : lt x (l[k - 1]'(by omega)) = false := h2 hk0 _ (List.getElem?_eq_getElem (by omega))
   by_cases e : q = k - 1
   · subst e; exact hl
   · exact W.neg _ _ _ (List.pairwise_iff_getElem.1 h q (k - 1) (by omega) (by omega) (by omega)) hl
 unfold ys2
 rw [List.pairwise_append]
 refine ⟨p1, ?_, fun a ha b hb => ?_⟩
 · rw [List.pairwise_cons]
   exact ⟨fun y hy => W.asym _ _ (hd y hy), p2⟩
 · rcases List.mem_cons.1 hb with rfl | hb
   · exact ht a ha
   · exact p3 a ha b hb
theorem ybg (W : Wk lt) (l : List α) : ys2 lt (zhb lt l) := by
 have key : ∀ i, i <= l.length -> ys2 lt (zhb lt (l.take i)) := by
   intro i
   induction i with
   | zero => intro _; exact List.Pairwise.nil
   | succ i ih =>
     intro hi
     rw [zi5 lt (by omega)]
     exact yd2 W (ih (by omega))
 have := key l.length (Nat.le_refl _)
 rwa [List.take_length] at this
theorem yd1 (W : Wk lt) {l : List α} {x h : α} {r : List α} (hd : ys2 lt (h :: r)) (e : l = h :: r) : (zqe lt l x).head? = some (if lt x h = true then x else h) := by
 subst e
 obtain ⟨h1, h2⟩ := zlk (lt := lt) x (h :: r) (h :: r).length (Nat.le_refl _)
 have hle := zt9 lt x (h :: r) (h :: r).length
 unfold zqe
 generalize zqf lt x (h :: r) (h :: r).length = k at h1 h2 hle |-
 have hr : ∀ y ∈ r, lt y h = false := (List.pairwise_cons.1 hd).1
 cases k with
 | zero =>
   have := h1 0 h (Nat.le_refl _) (by simp) rfl
   rw [if_pos this]; rfl
 | succ k =>
   have hl := h2 (Nat.succ_pos _) ((h :: r)[k]'(by omega)) (List.getElem?_eq_getElem (by omega))
   have : lt x h = false := by
     cases k with
     | zero => exact hl
     | succ k =>
       refine W.neg _ _ _ (hr _ ?_) hl
       rw [List.getElem_cons_succ]
       exact List.getElem_mem _
   rw [if_neg (by rw [this]; decide)]
   rfl
end
noncomputable def zk2 (c : Mb) : Nat -> List Iz
 | 0 => []
 | i + 1 => if mtB (mbQ c i) = true then zk2 c i ++ [(i : Int)] else zk2 c i
noncomputable def ltM (c : Mb) (a b : Int) : Bool := zft (rk1 (mbQ c a.toNat)) (rk2 (mbQ c a.toNat)) (rk1 (mbQ c b.toNat)) (rk2 (mbQ c b.toNat))
noncomputable def yhb (c : Mb) : List Iz := zhb (ltM c) (zk2 c c.rs.length)
theorem ym6 (c : Mb) : Wk (ltM c) := by
 refine ⟨fun a b h => ?_, fun a b d h1 h2 => ?_⟩
 · have := zhq.1 h
   exact zgm.2 (by omega)
 · have h1 := zgm.1 h1
   have h2 := zgm.1 h2
   exact zgm.2 (by omega)
theorem zoq (c : Mb) : ∀ {i : Nat} {a : Int}, a ∈ zk2 c i ↔ 0 <= a /\ a < i /\ mtB (mbQ c a.toNat) = true
 | 0, a => by
   unfold zk2
   simp
   omega
 | i + 1, a => by
   have ih := zoq c (i := i) (a := a)
   unfold zk2
   by_cases h : mtB (mbQ c i) = true
   · rw [if_pos h, List.mem_append, ih, List.mem_singleton]
     constructor
     · rintro (⟨h1, h2, h3⟩ | rfl)
       · exact ⟨h1, by omega, h3⟩
       · exact ⟨by omega, by omega, by rw [Int.toNat_natCast]; exact h⟩
     · rintro ⟨h1, h2, h3⟩
       by_cases e : a = i
       · exact .inr e
       · exact .inl ⟨h1, by omega, h3⟩
   · rw [if_neg h, ih]
     constructor
     · rintro ⟨h1, h2, h3⟩
       exact ⟨h1, by omega, h3⟩
     · rintro ⟨h1, h2, h3⟩
       refine ⟨h1, ?_, h3⟩
       by_cases e : a = i
       · subst e
         rw [Int.toNat_natCast] at h3
         exact absurd h3 h
       · omega
theorem zi7 (c : Mb) : ∀ i, (zk2 c i).length <= i
 | 0 => Nat.le_refl _
 | i + 1 => by
   have := zi7 c i
   unfold zk2
   split
   · rw [List.length_append]; show _ + 1 <= _; omega
   · omega
theorem yrh {c : Mb} {a : Int} : a ∈ yhb c ↔ 0 <= a /\ a < c.rs.length /\ mtB (mbQ c a.toNat) = true := by
 unfold yhb
 rw [zki, zoq]
theorem yld (c : Mb) : (yhb c).length = (zk2 c c.rs.length).length := zoo _ _
theorem zxl (c : Mb) : ∀ i, (bsN c i = ⟨0, false, 0, 0⟩ /\ zhb (ltM c) (zk2 c i) = []) \/ ∃ b : Nat, b < i /\ bsN c i = ⟨b, true, rk1 (mbQ c b), rk2 (mbQ c b)⟩ /\ (zhb (ltM c) (zk2 c i)).head? = some (b : Int)
 | 0 => .inl ⟨by rw [bsN], rfl⟩
 | i + 1 => by
   have ih := zxl c i
   cases hm : mtB (mbQ c i) with
   | false =>
     have hsel : zk2 c (i + 1) = zk2 c i := by rw [zk2, if_neg (by rw [hm]; decide)]
     obtain ⟨q1, q2⟩ := zyj hm
     have hbs : bsN c (i + 1) = bsN c i := by
       rw [bsN, if_neg]
       rw [q1, q2]
       rcases ygk c i with ⟨h1, _⟩ | ⟨b, hb, he⟩
       · rw [h1]; decide
       · rw [he]
         obtain ⟨p1, p2, _⟩ := zle hb.mt
         rw [Bool.not_eq_true]
         exact zgm.2 (.inl (by show (0 : Int) < rk1 (mbQ c b); omega))
     rw [hsel, hbs]
     rcases ih with h | ⟨b, h1, h2, h3⟩
     · exact .inl h
     · exact .inr ⟨b, by omega, h2, h3⟩
   | true =>
     have hsel : zk2 c (i + 1) = zk2 c i ++ [(i : Int)] := by rw [zk2, if_pos hm]
     obtain ⟨p1, p2, _⟩ := zle hm
     rw [hsel, zl3]
     rcases ih with ⟨h1, h2⟩ | ⟨b, h1, h2, h3⟩
     · refine .inr ⟨i, by omega, ?_, ?_⟩
       · rw [bsN, h1, if_pos (zhq.2 (.inl (by show (0 : Int) < _; omega)))]
       · rw [h2]; rfl
     · obtain ⟨r, hr⟩ : ∃ r, zhb (ltM c) (zk2 c i) = (b : Int) :: r := by
         cases e : zhb (ltM c) (zk2 c i) with
         | nil => rw [e] at h3; cases h3
         | cons y r => rw [e] at h3; cases h3; exact ⟨r, rfl⟩
       have hd := ybg (ym6 c) (zk2 c i)
       rw [hr] at hd
       have hh := yd1 (ym6 c) (x := (i : Int)) hd hr
       have e : ltM c (i : Int) (b : Int) = zft (rk1 (mbQ c i)) (rk2 (mbQ c i)) (rk1 (mbQ c b)) (rk2 (mbQ c b)) := by
         unfold ltM
         rw [Int.toNat_natCast, Int.toNat_natCast]
       rw [hh, bsN, h2, e]
       by_cases hg : zft (rk1 (mbQ c i)) (rk2 (mbQ c i)) (rk1 (mbQ c b)) (rk2 (mbQ c b)) = true
       · rw [if_pos hg, if_pos hg]
         exact .inr ⟨i, by omega, rfl, rfl⟩
       · rw [if_neg hg, if_neg hg]
         exact .inr ⟨b, by omega, rfl, rfl⟩
theorem ygr (c : Mb) : bsS c = decide (0 < (yhb c).length) /\ (bsS c = true -> (yhb c)[0]? = some (bsB c)) /\ (bsS c = false -> bsB c = 0) := by
 unfold bsS bsB yhb
 rcases zxl c c.rs.length with ⟨h1, h2⟩ | ⟨b, h1, h2, h3⟩
 · rw [h1, h2]
   exact ⟨rfl, (fun h => by cases h), fun _ => rfl⟩
 · rw [h2]
   have h4 : (zhb (ltM c) (zk2 c c.rs.length))[0]? = some (b : Int) := by rw [<- List.head?_eq_getElem?]; exact h3
   refine ⟨?_, fun _ => h4, fun h => by cases h⟩
   obtain ⟨hlt, _⟩ := List.getElem?_eq_some_iff.1 h4
   exact (decide_eq_true hlt).symm
end Sy
end Go.Proofs.YtogpolfhcbgcbaaGreatDoor
namespace Go.Proofs.YtogpolfhcbgcbaaGreatDoor
namespace Sy
open Go Go.RowKit
set_option maxRecDepth 100000
set_option maxHeartbeats 4000000
set_option linter.unusedSimpArgs false
set_option linter.unusedVariables false
theorem yr6 {a b x y : Int} (ha : inM a) (hb : inM b) (hx : inM x) (hy : inM y) : ilt (ymt (fOf a) (fOf b) (fOf x) (fOf y)) 0 = zft x y a b := by
 obtain ⟨a, rfl, na⟩ := zeg ha
 obtain ⟨b, rfl, nb⟩ := zeg hb
 obtain ⟨x, rfl, nx⟩ := zeg hx
 obtain ⟨y, rfl, ny⟩ := zeg hy
 have k : ∀ n : Nat, n <= 2 ^ 40 -> n < 2 ^ 53 := fun n h => Nat.lt_of_le_of_lt h (by decide)
 unfold ymt
 rw [zpv (k _ na) (k _ nx), zpv (k _ nb) (k _ ny)]
 unfold zft
 rcases Nat.lt_trichotomy a x with h | h | h
 · rw [if_pos h, if_neg (by decide : ¬ (-1 : Int) = 0), decide_eq_true (show ((a : Int) < x) by omega)]
   rfl
 · subst h
   rw [if_neg (Nat.lt_irrefl _), if_neg (Nat.lt_irrefl _), if_pos rfl, decide_eq_false (show ¬ ((a : Int) < a) by omega), decide_eq_true (rfl : (a : Int) = a)]
   rcases Nat.lt_trichotomy b y with h2 | h2 | h2
   · rw [if_pos h2, decide_eq_true (show ((b : Int) < y) by omega)]; rfl
   · subst h2
     rw [if_neg (Nat.lt_irrefl _), if_neg (Nat.lt_irrefl _), decide_eq_false (show ¬ ((b : Int) < b) by omega)]; rfl
   · rw [if_neg (show ¬ b < y by omega), if_pos h2, decide_eq_false (show ¬ ((b : Int) < y) by omega)]; rfl
 · rw [if_neg (show ¬ a < x by omega), if_pos h, if_neg (by decide : ¬ (1 : Int) = 0), decide_eq_false (show ¬ ((a : Int) < x) by omega), decide_eq_false (show ¬ ((x : Int) = a) by omega)]
   rfl
theorem yxj {c : Mc} {a b : Int} (hok : zz5 c) (ha : mcE c a) (hb : mcE c b) : ltC c a b = ltM (mcB c) a b := by
 have hq : ∀ i : Int, mcE c i -> zmy (mbQ (mcB c) i.toNat) := fun i hi => zk8 hok (by have := hi.1; have := hi.2; show i.toNat < c.y.rs.length; omega)
 obtain ⟨ra1, ra2⟩ := zt0 (hq a ha)
 obtain ⟨rb1, rb2⟩ := zt0 (hq b hb)
 unfold ltC mcZ ltM
 exact yr6 rb1 rb2 ra1 ra2
noncomputable def slM (c : Mc) (i : Nat) : List Iz := zk2 (mcB c) i
noncomputable def slN (c : Mc) (i : Nat) : Nat := (slM c i).length
noncomputable def slE (c : Mc) : Nat := slN c c.y.rs.length
noncomputable def slL (c : Mc) : List Iz := slM c c.y.rs.length
noncomputable def alZ (c : Mc) : List Iz := yhb (mcB c)
theorem ynj {c : Mc} : ∀ a ∈ slL c, mcE c a := fun a ha => by
 obtain ⟨h1, h2, _⟩ := (zoq (mcB c)).1 ha
 exact ⟨h1, h2⟩
theorem yvn {c : Mc} (hok : zz5 c) : zn9 c (slL c) = alZ c := by
 unfold zn9 alZ yhb
 exact zxr fun x hx y hy => yxj hok (ynj x hx) (ynj y hy)
theorem zq9 (c : Mc) : (alZ c).length = slE c := yld _
noncomputable def ssm (c : Mc) (L : zab) : zog := (39, fun raw ob => match raw with
 | [.sl k 1 0 n', .fn f [] [.ref k1 0, .ref k2 0, .ref k3 0]] => some ⟨ybf (L slE c), zhj L (L slE c) (L slL c) :: mcO L c, True, .tup [], zhj L (L slE c) (L alZ c) :: mcO L c⟩
 | _ => none)
theorem yhn {c : Mc} (hc : zz5 c) (h20 : c.y.rs.length <= 20) : zg9 Tryz.prog (ssm c std) := by
 intro raw ob T h hp
 unfold ssm at h
 simp only at h
 split at h
 rotate_left
 · cases h
 rename_i k n' f k1 k2 k3
 cases h
 have h := ywq (c := c) (l := slL c) (n := slE c) hc rfl (Nat.le_trans (zi7 (mcB c) _) h20) ynj
 rw [yvn hc] at h
 exact h
def slI (c : Mc) (i : Nat) : Prop := i <= c.y.rs.length
def slMu (c : Mc) (i : Nat) : Nat := c.y.rs.length - i
noncomputable def allA (L : zab) (c : Mc) : Nat -> St -> Option Ann := fun id st => match id with
 | 0 => some ⟨Nat, fun i => [(13, .int .i64 (L za7 i)), (7, .sl 900 1 0 (L2 L slN c i))], fun i => [(900, .row 3 1 (L2 L slN c i) (fun q => izC L (L (L zak (L2 L slM c i)) q)))], [3, 4, 5, 11, 12], [3, 4, 5], fun i => L2 L slI c i, fun i => L2 L slMu c i⟩
 | _ => none
theorem yvm {c : Mc} (hc : zz5 c) (h20 : c.y.rs.length <= 20) : zad Tryz.prog 20 (.agg ((List.range 7).map (lsC std c.y)) :: .str c.host :: .str c.path :: []) (.lst 1 (slE c) (fun q => izC std (zak (alZ c) q))) := by
 refine za8 (T := tt) (S := fun L => zca [ydq L] [ssm c L]) (lo := fun L => allA L c) (lb := noA) 5 (fn := Tryz.f20) (xs := fun L => [.agg [lsC L (L Mc.y c) 0, lsC L (L Mc.y c) 1, lsC L (L Mc.y c) 2, lsC L (L Mc.y c) 3, lsC L (L Mc.y c) 4, lsC L (L Mc.y c) 5, lsC L (L Mc.y c) 6], .str (L Mc.host c), .str (L Mc.path c)]) rfl rfl (by kernel_rfl) (by kernel_rfl) rfl zac (zaw ⟨zpa, trivial⟩ ⟨yhn hc h20, trivial⟩) (by kernel_rfl) ?_
 intro L P' Q' hL hP hQ
 (cbv; try simp only [syT, true_and, and_true])
 refine ⟨⟨0, ?_⟩, fun i hi => ?_⟩
 · (cbv; try simp only [syT, true_and, and_true])
   subst hL
   exact ⟨fun _ _ _ _ => trivial, rfl, fun _ _ _ _ => trivial, rfl, rfl, Nat.zero_le _⟩
 · have hi2 : i <= c.y.rs.length := by
     have h := hi
     rw [hL] at h
     exact h
   clear hi
   obtain ⟨i', hi'⟩ : ∃ i', i' = i + 1 := ⟨_, rfl⟩
   (cbv; try simp only [syT, true_and, and_true])
   refine ⟨fun hlt => ?_, fun hge => ?_⟩
   · have hil : i < c.y.rs.length := by
       have h := hlt
       rw [hL] at h
       have h2 : ilt (za7 i) (za7 c.y.rs.length) = true := h
       rw [zcp, za1, za1] at h2; omega
     have hqk := zk8 (c := mcB c) hc (i := i) hil
     have hln := zi7 (mcB c) i
     obtain ⟨q, hq⟩ : ∃ q, zil L (L Rt.h (L (L zao (L Ls.rs (L Mc.y c))) (L Int.toNat (L za7 i)))) (L Rt.p (L (L zao (L Ls.rs (L Mc.y c))) (L Int.toNat (L za7 i)))) (L Mc.host c) (L Mc.path c) = q := ⟨_, rfl⟩
     rw [hq]
     have hqq : q = mbQ (mcB c) i := by rw [<- hq, hL]; rfl
     refine ⟨?_, ?_, fun hm => ⟨?_, i', ?_⟩, fun hm => ⟨i', ?_⟩⟩
     · rw [hL]
       show inR (za7 i) (za7 c.y.rs.length) = true
       rw [zn1, za1, za1]; omega
     · rw [hL, hqq]; exact hqk
     · rw [hL]
       show zc0 8 (slN c i) 1 = true
       have : slN c i <= i := hln
       rw [zdt]; omega
     · have hs : slM c i' = slM c i ++ [(i : Int)] := by
         have h := hm
         rw [hL, hqq] at h
         have h : mtB (mbQ (mcB c) i) = true := h
         unfold slM
         rw [hi', zk2, if_pos h]
       have hsn : slN c i' = slN c i + 1 := by
         unfold slN
         rw [hs, List.length_append]; rfl
       (cbv; try simp only [syT, true_and, and_true])
       subst hL
       refine ⟨fun _ _ _ _ => trivial, ⟨hsn.symm, ?_⟩, fun _ _ _ _ => trivial, hsn.symm, ?_, ?_, ?_⟩
       · intro q j hq hj
         have hq : q < slN c i' := hq
         show zhc std (zbk q (slN c i)) (izC std (zak (slM c i) q) j) (.int .i64 (zkd [za7 i] (Nat.add 0 (q - slN c i)))) = izC std (zak (slM c i') q) j
         rw [hs]
         by_cases h : q < slN c i
         · have e : zak (slM c i ++ [(i : Int)]) q = zak (slM c i) q := by
             show (slM c i ++ [(i : Int)]).getD q 0 = (slM c i).getD q 0
             rw [List.getD_eq_getElem?_getD, List.getElem?_append_left h, <- List.getD_eq_getElem?_getD]
           rw [e, show zbk q (slN c i) = true from decide_eq_true h]; rfl
         · obtain rfl : q = slN c i := by omega
           have e : zak (slM c i ++ [(i : Int)]) (slN c i) = (i : Int) := by
             show (slM c i ++ [(i : Int)]).getD (slM c i).length 0 = (i : Int)
             rw [List.getD_eq_getElem?_getD, List.getElem?_append_right (Nat.le_refl _), Nat.sub_self]; rfl
           rw [e, show zbk (slN c i) (slN c i) = false from decide_eq_false (Nat.lt_irrefl _), Nat.sub_self]; rfl
       · show zfi .i64 (za7 i) 1 = za7 i'
         rw [hi', zd0 hil (by omega)]
       · show i' <= c.y.rs.length
         omega
       · show c.y.rs.length - i' < c.y.rs.length - i
         omega
     · have hs : slM c i' = slM c i := by
         have h := hm
         rw [hL, hqq] at h
         have h : mtB (mbQ (mcB c) i) = false := h
         unfold slM
         rw [hi', zk2, if_neg (by rw [h]; decide)]
       have hsn : slN c i' = slN c i := by
         unfold slN
         rw [hs]
       (cbv; try simp only [syT, true_and, and_true])
       subst hL
       refine ⟨fun _ _ _ _ => trivial, ⟨hsn.symm, ?_⟩, fun _ _ _ _ => trivial, hsn.symm, ?_, ?_, ?_⟩
       · intro q j hq hj
         show izC std (zak (slM c i) q) j = izC std (zak (slM c i') q) j
         rw [hs]
       · show zfi .i64 (za7 i) 1 = za7 i'
         rw [hi', zd0 hil (by omega)]
       · show i' <= c.y.rs.length
         omega
       · show c.y.rs.length - i' < c.y.rs.length - i
         omega
   · have hie : i = c.y.rs.length := by
       have h := hge
       rw [hL] at h
       have h2 : ilt (za7 i) (za7 c.y.rs.length) = false := h
       rw [zeh, za1, za1] at h2; omega
     subst hL; subst hQ
     subst hie
     refine ⟨fun _ _ _ _ => trivial, ⟨rfl, fun _ _ _ _ => rfl⟩, rfl, ?_⟩
     rw [zeq]
     refine ⟨rfl, fun q j hq hj => ?_⟩
     show izC std (zak (alZ c) (Nat.add 0 q)) j = izC std (zak (alZ c) q) j
     rw [zmx]
def yh5 (L : zab) (y : Ls) (host path : List UInt8) : Mc := L (L (L Mc.mk y) host) path
def yxi (c : Mc) : Prop := zz5 c /\ c.y.rs.length <= 20
noncomputable def yrg (L : zab) : zbb := (20, fun xs => match xs with
 | [x, .str host, .str path] => some (L zii x /\ L yxi (yh5 L (L zcg x) host path), .lst 1 (L slE (yh5 L (L zcg x) host path)) (fun q => izC L (L (L zak (L alZ (yh5 L (L zcg x) host path))) q)))
 | _ => none)
theorem ylc : zay Tryz.prog (yrg std) := by
 intro xs p r h hp
 dsimp only [yrg] at h |-
 split at h <;> cases h
 try simp only [L2, L3, std] at hp |-
 rename_i x host path
 obtain ⟨ho, hok, h20⟩ := hp
 refine zsn zct ho ?_
 exact yvm (c := yh5 std (zcg x) host path) hok h20
end Sy
end Go.Proofs.YtogpolfhcbgcbaaGreatDoor
namespace Go.Proofs.YtogpolfhcbgcbaaGreatDoor
namespace Sy
open Go Go.RowKit
set_option maxRecDepth 100000
set_option linter.unusedSimpArgs false
set_option linter.unusedVariables false
def yko (a b : List Iz) : Bool := decide (a = b)
def eqtIz (a b : List Iz) (i : Nat) : Prop := zzu izV a b i
def goIz (l : List Iz) (i : Nat) : Nat := yrq l i
theorem zzt : zay Tryz.prog (ys1 19 ydi zt5 yko std) := by
 intro xs p r h hp
 dsimp only [ys1] at h |-
 split at h <;> cases h
 try simp only [L2, L3, std] at hp |-
 rename_i x y
 obtain ⟨ho, ho', hz⟩ := hp
 refine zhf znw ho (yvp znw ho' ?_)
 have hz : zg3 (rdW izV x) := hz
 show zad _ _ _ (.bool (yko (rdW izV x) (rdW izV y)))
 generalize rdW izV x = l at hz |-
 generalize rdW izV y = m
 refine za8 (T := tt) (S := noS) (lo := fun L => eqlA L eqtIz goIz l m) (lb := noA) 5 (fn := Tryz.f19) (xs := fun L => [yje L l, yje L m]) rfl rfl (by kernel_rfl) (by kernel_rfl) rfl zac (zc2 _) (by kernel_rfl) ?_
 intro L P' Q' hL hP hQ
 have e1 : zbl l = l.length := rfl
 have e2 : zbl m = m.length := rfl
 have hz : l.length <= 1000000 := hz
 (cbv; try simp only [syT, true_and, and_true])
 refine ⟨fun hne => ?_, fun heq => ⟨⟨0, ?_⟩, fun i hi => ?_⟩⟩
 · (subst hL; subst hQ; simp only [L2, L3, std] at *; try simp only [syS, reduceCtorEq, Int.reduceToNat, Int.reduceAdd, Int.reduceSub] at *)
   exact (decide_eq_false (yml (by omega))).symm
 · (cbv; try simp only [syT, true_and, and_true])
   (subst hL; subst hQ; simp only [L2, L3, std] at *; try simp only [syS, reduceCtorEq, Int.reduceToNat, Int.reduceAdd, Int.reduceSub] at *)
   exact yff (by omega)
 · cbv at hi
   (cbv; try simp only [syT, true_and, and_true])
   refine ⟨fun hlt => ⟨?_, ?_, fun hb => ?_, fun hb => ⟨i + 1, ?_⟩⟩, fun hge => ?_⟩
   · (subst hL; subst hQ; simp only [L2, L3, std] at *; try simp only [syS, reduceCtorEq, Int.reduceToNat, Int.reduceAdd, Int.reduceSub] at *)
     omega
   · (subst hL; subst hQ; simp only [L2, L3, std] at *; try simp only [syS, reduceCtorEq, Int.reduceToNat, Int.reduceAdd, Int.reduceSub] at *)
     omega
   · (subst hL; subst hQ; simp only [L2, L3, std] at *; try simp only [syS, reduceCtorEq, Int.reduceToNat, Int.reduceAdd, Int.reduceSub] at *)
     exact (decide_eq_false (zx5 (V := izV) (i := i) hb)).symm
   · (cbv; try simp only [syT, true_and, and_true])
     (subst hL; subst hQ; simp only [L2, L3, std] at *; try simp only [syS, reduceCtorEq, Int.reduceToNat, Int.reduceAdd, Int.reduceSub] at *)
     refine ⟨by omega, zo5 hi (by omega) hb, ?_⟩
     show l.length - (i + 1) < l.length - i
     omega
   · (subst hL; subst hQ; simp only [L2, L3, std] at *; try simp only [syS, reduceCtorEq, Int.reduceToNat, Int.reduceAdd, Int.reduceSub] at *)
     exact (decide_eq_true (zrz hi (by omega))).symm
noncomputable def ixF (l : List Iz) (x : Iz) : Nat := l.idxOf x
noncomputable def ixZ (l : List Iz) (x : Iz) : Int := if ixF l x < l.length then ixF l x else -1
def ymr (l : List Iz) (x : Iz) : Bool := decide (x ∈ l)
def ixzI (l : List Iz) (x : Iz) (i : Nat) : Prop := i <= l.length /\ ∀ j, j < i -> zak l j ≠ x
def yxs (l : List Iz) (i : Nat) : Nat := l.length - i
noncomputable def ixzA (L : zab) (l : List Iz) (x : Iz) : Nat -> St -> Option Ann := fun id st => match id with
 | 0 => some ⟨Nat, fun i => [(8, .int .i64 (L za7 i))], fun i => [], [0, 1, 7], [], fun i => L3 L ixzI l x i, fun i => L2 L yxs l i⟩
 | _ => none
theorem yxu {l : List Iz} {x : Iz} {i : Nat} (hi : i < l.length) (h : ∀ j, j < i -> zak l j ≠ x) (he : zak l i = x) : ixZ l x = i := by
 have hget : ∀ j (hj : j < l.length), zak l j = l[j] := fun j hj => zas hj
 have h1 : l.idxOf x = i := by
   rw [hget i hi] at he
   have hm : x ∈ l := he ▸ List.getElem_mem hi
   have hlt := List.idxOf_lt_length_of_mem hm
   have hx := List.getElem_idxOf hlt
   rcases Nat.lt_trichotomy (l.idxOf x) i with h2 | h2 | h2
   · exact absurd ((hget _ hlt).trans hx) (h _ h2)
   · exact h2
   · have := List.not_of_lt_findIdx (p := (· == x)) (xs := l) (i := i) (by exact h2)
     simp [he] at this
 unfold ixZ ixF
 rw [h1, if_pos hi]
theorem ytz {l : List Iz} {x : Iz} (h : ∀ j, j < l.length -> zak l j ≠ x) : ixZ l x = -1 := by
 unfold ixZ ixF
 rw [if_neg]
 intro hlt
 exact h _ hlt ((zas hlt).trans (List.getElem_idxOf hlt))
theorem yxt (l : List Iz) (x : Iz) : ile 0 (ixZ l x) = ymr l x := by
 unfold ymr
 by_cases hm : x ∈ l
 · have hlt := List.idxOf_lt_length_of_mem hm
   rw [decide_eq_true hm, yem]
   unfold ixZ ixF
   rw [if_pos hlt]; omega
 · rw [decide_eq_false hm, yjx, ytz]
   · omega
   · intro j hj he
     rw [show zak l j = l[j] from zas hj] at he
     exact hm (he ▸ List.getElem_mem hj)
noncomputable def yp2 (L : zab) : zbb := (38, fun xs => match xs with
 | [l, .int .i64 x] => some (L ydi l /\ L zg3 (L zt5 l), .int .i64 (L2 L ixZ (L zt5 l) x))
 | _ => none)
theorem yjs : zay Tryz.prog (yp2 std) := by
 intro xs p r h hp
 dsimp only [yp2] at h |-
 split at h <;> cases h
 try simp only [L2, L3, std] at hp |-
 rename_i a x
 obtain ⟨ho, hz⟩ := hp
 refine zhf znw ho ?_
 have hz : zg3 (rdW izV a) := hz
 show zad _ _ _ (.int .i64 (ixZ (rdW izV a) x))
 generalize rdW izV a = l at hz |-
 have hz : l.length <= 1000000 := hz
 refine za8 (T := tt) (S := noS) (lo := fun L => ixzA L l x) (lb := noA) 5 (fn := Tryz.f38) (xs := fun L => [yje L l, .int .i64 x]) rfl rfl (by kernel_rfl) (by kernel_rfl) rfl zac (zc2 _) (by kernel_rfl) ?_
 intro L P' Q' hL hP hQ
 (cbv; try simp only [syT, true_and, and_true])
 refine ⟨⟨0, ?_⟩, fun i hi => ?_⟩
 · (cbv; try simp only [syT, true_and, and_true])
   subst hL
   exact ⟨fun _ _ _ _ => trivial, rfl, Nat.zero_le _, fun j hj => by omega⟩
 · obtain ⟨hi1, hi2⟩ : ixzI l x i := by
     have h := hi
     rw [hL] at h
     exact h
   clear hi
   obtain ⟨i', hi'⟩ : ∃ i', i' = i + 1 := ⟨_, rfl⟩
   (cbv; try simp only [syT, true_and, and_true])
   refine ⟨fun hlt => ⟨?_, fun he => ?_, fun hne => ⟨i', ?_⟩⟩, fun hge => ?_⟩
   · subst hL
     have h2 : ilt (za7 i) (za7 l.length) = true := hlt
     rw [zcp, za1, za1] at h2
     show inR (za7 i) (za7 l.length) = true
     exact zf9 (by omega)
   · subst hL; subst hQ
     have h2 : ilt (za7 i) (za7 l.length) = true := hlt
     rw [zcp, za1, za1] at h2
     have he : ieq x (zak l i) = true := he
     rw [zn2] at he
     rw [zer, yxu (by omega) hi2 he.symm]; rfl
   · (cbv; try simp only [syT, true_and, and_true])
     subst hL
     have h2 : ilt (za7 i) (za7 l.length) = true := hlt
     rw [zcp, za1, za1] at h2
     have hne : ieq x (zak l i) = false := hne
     rw [zzf] at hne
     refine ⟨fun _ _ _ _ => trivial, ?_, ⟨?_, fun j hj => ?_⟩, ?_⟩
     · show zfi .i64 (za7 i) 1 = za7 i'
       rw [hi', zd0 (n := l.length) (by omega) (by omega)]
     · omega
     · by_cases h : j < i
       · exact hi2 j h
       · obtain rfl : j = i := by omega
         exact fun h => hne h.symm
     · show l.length - i' < l.length - i
       omega
   · subst hL; subst hQ
     have h2 : ilt (za7 i) (za7 l.length) = false := hge
     rw [zeh, za1, za1] at h2
     rw [zer, ytz (fun j hj => hi2 j (by omega))]
noncomputable def yqm (L : zab) : zbb := (18, fun xs => match xs with
 | [l, .int .i64 x] => some (L ydi l /\ L zg3 (L zt5 l), .bool (L2 L ymr (L zt5 l) x))
 | _ => none)
theorem yky : zay Tryz.prog (yqm std) := by
 intro xs p r h hp
 dsimp only [yqm] at h |-
 split at h <;> cases h
 try simp only [L2, L3, std] at hp |-
 rename_i a x
 obtain ⟨ho, hz⟩ := hp
 refine zhf znw ho ?_
 have hz : zg3 (rdW izV a) := hz
 show zad _ _ _ (.bool (ymr (rdW izV a) x))
 generalize rdW izV a = l at hz |-
 have hz : l.length <= 1000000 := hz
 refine za8 (T := tt) (S := fun L => zam [yp2 L]) (lo := noA) (lb := noA) 5 (fn := Tryz.f18) (xs := fun L => [yje L l, .int .i64 x]) rfl rfl (by kernel_rfl) (by kernel_rfl) rfl zac (za2 ⟨yjs, trivial⟩) (by kernel_rfl) ?_
 intro L P' Q' hL hP hQ
 (cbv; try simp only [syT, true_and, and_true])
 subst hL; subst hQ
 obtain ⟨r1, r2⟩ := zcd znw l
 refine ⟨⟨r1, ?_⟩, ?_⟩
 · show zg3 (rdW izV (zz7 std izV l))
   rw [r2]; exact hz
 · show zg4 (.bool (ymr l x)) (.bool (ile 0 (ixZ (rdW izV (zz7 std izV l)) x)))
   rw [r2, yxt, zah]
end Sy
end Go.Proofs.YtogpolfhcbgcbaaGreatDoor
namespace Go.Proofs.YtogpolfhcbgcbaaGreatDoor
namespace Sy
open Go Go.RowKit
set_option maxRecDepth 100000
set_option linter.unusedSimpArgs false
set_option linter.unusedVariables false
theorem zl5 (c : UInt8) (y : List UInt8) : ∀ x : List UInt8, zaf c (x ++ c :: y) = zaf c x ++ zaf c y
 | [] => by
   show zaf c (c :: y) = [] :: zaf c y
   rw [zaf, if_pos rfl]
 | a :: x => by
   have ih := zl5 c y x
   show zaf c (a :: (x ++ c :: y)) = _
   rw [zaf, zaf]
   by_cases ha : a = c
   · rw [if_pos ha, if_pos ha, ih]; rfl
   · rw [if_neg ha, if_neg ha, ih]
     cases e : zaf c x with
     | nil => exact absurd e (zdh c x)
     | cons z r => rfl
end Sy
end Go.Proofs.YtogpolfhcbgcbaaGreatDoor
namespace Go.Proofs.YtogpolfhcbgcbaaGreatDoor
namespace Sy
open Go Go.RowKit
set_option maxRecDepth 100000
set_option maxHeartbeats 4000000
set_option linter.unusedSimpArgs false
set_option linter.unusedVariables false
def pE (s : Lbx) (i : Nat) : List Lbx := ziy ((za9 s zb3).take i)
theorem zl7 (s : Lbx) : spC s 47 = za9 s zb3 := rfl
theorem ydc {s : Lbx} {i : Nat} (hi : i < (za9 s zb3).length) : pE s (i + 1) = if noB (zc1 (za9 s zb3) i) = true then pE s i else pE s i ++ [zc1 (za9 s zb3) i] := by
 have e : zc1 (za9 s zb3) i = (za9 s zb3)[i] := by rw [zc1, List.getD_eq_getElem?_getD, List.getElem?_eq_getElem hi]; rfl
 unfold pE ziy
 rw [List.take_succ_eq_append_getElem hi, List.filter_append, e]
 by_cases h : noB (za9 s zb3)[i] = true
 · rw [if_pos h]; simp [h]
 · rw [if_neg h]; simp [h]
theorem yt9 (s : Lbx) (i : Nat) : (pE s i).length <= i := by
 have h1 : (pE s i).length <= ((za9 s zb3).take i).length := List.length_filter_le _ _
 rw [List.length_take] at h1
 omega
def peI (s : Lbx) (i : Nat) : Prop := i <= (za9 s zb3).length
def peMu (s : Lbx) (i : Nat) : Nat := (za9 s zb3).length - i
def ywx (L : zab) (s : Lbx) : Nat -> St -> Option Ann := fun id st => match id with
 | 0 => some ⟨Nat, fun i => [(9, .int .i64 (L za7 i)), (3, .sl 900 1 0 (L zbl (L2 L pE s i)))], fun i => [(900, .row 9 1 (L zbl (L2 L pE s i)) (fun q => sxC L (L (L zaj (L2 L pE s i)) q)))], [7, 8], [], fun i => L2 L peI s i, fun i => L2 L peMu s i⟩
 | _ => none
def zvd (L : zab) : zbb := (37, fun xs => match xs with
 | [.str s] => some (L2 L upto 900000 s, .lst 1 (L zbl (L za5 s)) (fun i => sxC L (L (L zaj (L za5 s)) i)))
 | _ => none)
theorem app_1 {α : Type} {V : Vw α} {l : List α} {x : α} {q : Nat} (hq : q < l.length + 1) : zi0 V (l ++ [x]) q = if q < l.length then zi0 V l q else x := by
 rw [zas (V := V) (by simpa using hq)]
 split
 · rename_i h
   rw [List.getElem_append_left h, zas (V := V) h]
 · rename_i h
   obtain rfl : q = l.length := by omega
   rw [List.getElem_append_right (Nat.le_refl _)]; simp
theorem zqt : zay Tryz.prog (zvd std) := by
 intro xs p r h hp
 dsimp only [zvd] at h |-
 split at h <;> cases h
 try simp only [L2, L3, std] at hp |-
 rename_i s
 have hs : s.length <= 900000 := hp
 refine za8 (T := tt) (S := fun L => zam [znf L]) (lo := fun L => ywx L s) (lb := noA) 5 (fn := Tryz.f37) (xs := fun L => [.str s]) rfl rfl (by kernel_rfl) (by kernel_rfl) rfl zac (za2 ⟨zib, trivial⟩) (by kernel_rfl) ?_
 intro L P' Q' hL hP hQ
 (cbv; try simp only [syT, true_and, and_true])
 have hlen : (spC s 47).length <= 900001 := by
   rw [zl7]
   have h2 : (za9 s zb3).length = cntB s zb3 + 1 := zap (by1 zb3) s
   have := zo9 s zb3
   omega
 refine ⟨⟨by rw [hL]; show s.length <= 1000000; omega, by rw [hL]; exact ⟨by decide, by decide⟩⟩, ⟨0, ?_⟩, fun i hi => ?_⟩
 · (cbv; try simp only [syT, true_and, and_true])
   subst hL
   exact ⟨rfl, fun _ _ _ _ => trivial, rfl, rfl, Nat.zero_le _⟩
 · have hi2 : peI s i := by
     have h := hi
     rw [hL] at h
     exact h
   clear hi
   obtain ⟨i', hi'⟩ : ∃ i', i' = i + 1 := ⟨_, rfl⟩
   (cbv; try simp only [syT, true_and, and_true])
   refine ⟨fun hlt => ⟨?_, fun hb => ⟨?_, i', ?_⟩, fun hb => ⟨i', ?_⟩⟩, fun hge => ?_⟩
   · rw [hL] at hlt |-
     have h2 : ilt (za7 i) (za7 (spC s 47).length) = true := hlt
     rw [zcp, za1, za1] at h2
     show inR (za7 i) (za7 (spC s 47).length) = true
     exact zf9 (by omega)
   · rw [hL] at hlt |-
     have h2 : ilt (za7 i) (za7 (spC s 47).length) = true := hlt
     rw [zcp, za1, za1] at h2
     show zc0 16 (pE s i).length 1 = true
     have := yt9 s i
     rw [zdt]; omega
   · have hil : i < (za9 s zb3).length := by
       rw [hL] at hlt
       have h2 : ilt (za7 i) (za7 (spC s 47).length) = true := hlt
       rw [zcp, za1, za1] at h2
       exact Int.ofNat_lt.1 h2
     have hst := ydc hil
     have hn : noB (zc1 (za9 s zb3) i) = false := by
       rw [hL] at hb
       have hb : (!noB (zc1 (za9 s zb3) i)) = true := hb
       simpa using hb
     rw [if_neg (by rw [hn]; decide), <- hi'] at hst
     have hsn : (pE s i').length = (pE s i).length + 1 := by rw [hst, List.length_append]; rfl
     (cbv; try simp only [syT, true_and, and_true])
     subst hL
     refine ⟨⟨hsn.symm, ?_⟩, fun _ _ _ _ => trivial, hsn.symm, ?_, ?_, ?_⟩
     · intro q j hq hj
       have hq : q < (pE s i').length := hq
       show zhc std (zbk q (pE s i).length) (sxC std (zaj (pE s i) q) j) (.str (zc1 [zc1 (spC s 47) i] (Nat.add 0 (q - (pE s i).length)))) = sxC std (zaj (pE s i') q) j
       rw [hst, show zaj (pE s i ++ [zc1 (za9 s zb3) i]) q = if q < (pE s i).length then zaj (pE s i) q else zc1 (za9 s zb3) i from app_1 (by omega)]
       by_cases h : q < (pE s i).length
       · rw [zhw h, if_pos h]; rfl
       · obtain rfl : q = (pE s i).length := by omega
         rw [zjy h, if_neg h, Nat.sub_self]; rfl
     · show zfi .i64 (za7 i) 1 = za7 i'
       rw [hi', zd0 (n := 900001) (by rw [zl7] at hlen; omega) (by omega)]
     · show i' <= (za9 s zb3).length
       omega
     · show (za9 s zb3).length - i' < (za9 s zb3).length - i
       omega
   · have hil : i < (za9 s zb3).length := by
       rw [hL] at hlt
       have h2 : ilt (za7 i) (za7 (spC s 47).length) = true := hlt
       rw [zcp, za1, za1] at h2
       exact Int.ofNat_lt.1 h2
     have hst := ydc hil
     have hn : noB (zc1 (za9 s zb3) i) = true := by
       rw [hL] at hb
       have hb : (!noB (zc1 (za9 s zb3) i)) = false := hb
       simpa using hb
     rw [if_pos hn, <- hi'] at hst
     (cbv; try simp only [syT, true_and, and_true])
     subst hL
     refine ⟨⟨show (pE s i).length = (pE s i').length by rw [hst], ?_⟩, fun _ _ _ _ => trivial, show (pE s i).length = (pE s i').length by rw [hst], ?_, ?_, ?_⟩
     · intro q j hq hj
       show sxC std (zaj (pE s i) q) j = sxC std (zaj (pE s i') q) j
       rw [hst]
     · show zfi .i64 (za7 i) 1 = za7 i'
       rw [hi', zd0 (n := 900001) (by rw [zl7] at hlen; omega) (by omega)]
     · show i' <= (za9 s zb3).length
       omega
     · show (za9 s zb3).length - i' < (za9 s zb3).length - i
       omega
   · subst hL; subst hQ
     have h2 : ilt (za7 i) (za7 (spC s 47).length) = false := hge
     rw [zeh, za1, za1] at h2
     have hie : (za9 s zb3).length <= i := Int.ofNat_le.1 h2
     have e : pE s i = za5 s := by
       unfold pE za5
       rw [List.take_of_length_le hie]
     rw [zeq]
     show (pE s i).length = (za5 s).length /\ _
     rw [e]
     refine ⟨rfl, fun q j hq hj => ?_⟩
     show sxC std (zaj (pE s i) (Nat.add 0 q)) j = sxC std (zaj (za5 s) q) j
     rw [e, zmx]
def ruI (a b : List Lbx) (i : Nat) : Prop := i <= a.length /\ ∀ j, j < i -> zaj a j = zaj b j
def ruMu (a : List Lbx) (i : Nat) : Nat := a.length - i
def ruA (L : zab) (a b : Lbx) : Nat -> St -> Option Ann := fun id st => match id with
 | 0 => some ⟨Nat, fun i => [(19, .int .i64 (L za7 i))], fun i => [], [5, 6, 18], [], fun i => L3 L ruI (L za5 a) (L za5 b) i, fun i => L2 L ruMu (L za5 a) i⟩
 | _ => none
def ych (L : zab) : zbb := (35, fun xs => match xs with
 | [.str a, .str b] => some (L2 L yhg a b, .bool (L2 L zsj a b))
 | _ => none)
theorem yci : zay Tryz.prog (ych std) := by
 intro xs p r h hp
 dsimp only [ych] at h |-
 split at h <;> cases h
 try simp only [L2, L3, std] at hp |-
 rename_i a b
 obtain ⟨ha, hb⟩ : yhg a b := hp
 refine za8 (T := tt) (S := fun L => zam [zvd L]) (lo := fun L => ruA L a b) (lb := noA) 5 (fn := Tryz.f35) (xs := fun L => [.str a, .str b]) rfl rfl (by kernel_rfl) (by kernel_rfl) rfl zac (za2 ⟨zqt, trivial⟩) (by kernel_rfl) ?_
 intro L P' Q' hL hP hQ
 (cbv; try simp only [syT, true_and, and_true])
 refine ⟨by rw [hL]; exact ha, by rw [hL]; exact hb, fun hgt => ?_, fun hle => ⟨⟨0, ?_⟩, fun i hi => ?_⟩⟩
 · subst hL; subst hQ
   have h2 : ilt (za7 (za5 b).length) (za7 (za5 a).length) = true := hgt
   rw [zcp, za1, za1] at h2
   rw [zah]
   show false = zsj a b
   unfold zsj
   rw [decide_eq_false (show ¬ (za5 a).length <= (za5 b).length by omega), Bool.false_and]
 · (cbv; try simp only [syT, true_and, and_true])
   subst hL
   exact ⟨fun _ _ _ _ => trivial, fun _ _ _ _ => trivial, rfl, Nat.zero_le _, fun j hj => by omega⟩
 · obtain ⟨hi1, hi2⟩ : ruI (za5 a) (za5 b) i := by
     have h := hi
     rw [hL] at h
     exact h
   clear hi
   obtain ⟨i', hi'⟩ : ∃ i', i' = i + 1 := ⟨_, rfl⟩
   have hab : (za5 a).length <= (za5 b).length := by
     have h := hle
     rw [hL] at h
     have h2 : ilt (za7 (za5 b).length) (za7 (za5 a).length) = false := h
     rw [zeh, za1, za1] at h2; omega
   have hA := zif a
   have ha : a.length <= 900000 := ha
   have hgA : ∀ q (h : q < (za5 a).length), zaj (za5 a) q = (za5 a)[q] := fun q h => zas h
   have hgB : ∀ q (h : q < (za5 b).length), zaj (za5 b) q = (za5 b)[q] := fun q h => zas h
   (cbv; try simp only [syT, true_and, and_true])
   refine ⟨fun hlt => ?_, fun hge => ?_⟩
   · have hil : i < (za5 a).length := by
       rw [hL] at hlt
       have h2 : ilt (za7 i) (za7 (za5 a).length) = true := hlt
       rw [zcp, za1, za1] at h2; omega
     refine ⟨by rw [hL]; exact zf9 (n := (za5 a).length) hil, by rw [hL]; exact zf9 (n := (za5 b).length) (by omega), fun hne => ?_, fun heq => ⟨i', ?_⟩⟩
     · subst hL; subst hQ
       have h2 : (!seq (zaj (za5 a) i) (zaj (za5 b) i)) = true := hne
       have h3 : zaj (za5 a) i ≠ zaj (za5 b) i := by
         rw [Bool.not_eq_true', ybs] at h2; exact h2
       rw [zah]
       show false = zsj a b
       unfold zsj
       rw [decide_eq_false (p := za5 a = (za5 b).take (za5 a).length), Bool.and_false]
       intro e
       refine h3 ?_
       rw [hgA i hil, hgB i (by omega)]
       have : (za5 a)[i]? = ((za5 b).take (za5 a).length)[i]? := by rw [<- e]
       rw [List.getElem?_take_of_lt hil, List.getElem?_eq_getElem hil, List.getElem?_eq_getElem (by omega)] at this
       exact Option.some.inj this
     · have h3 : zaj (za5 a) i = zaj (za5 b) i := by
         rw [hL] at heq
         have h2 : (!seq (zaj (za5 a) i) (zaj (za5 b) i)) = false := heq
         rw [Bool.not_eq_false', ybr] at h2; exact h2
       (cbv; try simp only [syT, true_and, and_true])
       subst hL
       refine ⟨fun _ _ _ _ => trivial, fun _ _ _ _ => trivial, ?_, ⟨?_, fun j hj => ?_⟩, ?_⟩
       · show zfi .i64 (za7 i) 1 = za7 i'
         rw [hi', zd0 hil (by omega)]
       · show i' <= (za5 a).length
         omega
       · by_cases h : j < i
         · exact hi2 j h
         · obtain rfl : j = i := by omega
           exact h3
       · show (za5 a).length - i' < (za5 a).length - i
         omega
   · subst hL; subst hQ
     have h2 : ilt (za7 i) (za7 (za5 a).length) = false := hge
     rw [zeh, za1, za1] at h2
     have hie : (za5 a).length <= i := Int.ofNat_le.1 h2
     rw [zah]
     show true = zsj a b
     unfold zsj
     rw [decide_eq_true hab, decide_eq_true]; rfl
     apply List.ext_getElem
     · rw [List.length_take]; omega
     · intro q q1 q2
       rw [List.getElem_take, <- hgA q q1, <- hgB q (by omega)]
       exact hi2 q (by omega)
end Sy
end Go.Proofs.YtogpolfhcbgcbaaGreatDoor
