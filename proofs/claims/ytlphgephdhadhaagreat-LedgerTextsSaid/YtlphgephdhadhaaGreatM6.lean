/-Chapters 1, 7, 19, the document's answers: the zit by sevens, the value, the message that a text is. Chapter 7 (codec): what is read is written as it was; chapter 16 (ledger): an entry of a value; and what stands between these and the texts behind.-/
import Derived.Test.YtlphgephdhadhaaGreatM5
namespace Go.Proofs.YtlphgephdhadhaaGreat
namespace Sy
open Go Go.RowKit
set_option maxRecDepth 100000
set_option linter.unusedSimpArgs false
set_option linter.unusedVariables false
def decN : List UInt8 -> Nat -> Nat
 | _, 0 => 0
 | [], _ + 1 => 0
 | b :: r, k + 1 => b.toNat % 128 + 128 * decN r k
theorem zu4 (b : UInt8) (r : List UInt8) (i : Nat) : cb (b :: r) (i + 1) = cb r i := rfl
theorem zu3 (b : UInt8) (r : List UInt8) : cb (b :: r) 0 = b.toNat := rfl
theorem zf0 : ∀ (k : Nat) (s : List UInt8), decN s (k + 1) = decN s k + cb s k % 128 * 128 ^ k
 | 0, [] => by simp [decN, cb]
 | 0, b :: r => by simp [decN, zu3]
 | k + 1, [] => by simp [decN, cb]
 | k + 1, b :: r => by
   have := zf0 k r
   rw [decN, decN, zu4, this, Nat.mul_add, Nat.pow_succ]
   have e : 128 * (cb r k % 128 * 128 ^ k) = cb r k % 128 * (128 ^ k * 128) := by
     rw [Nat.mul_comm 128, Nat.mul_assoc]
   omega
theorem yee (s : List UInt8) : ∀ k, decN s k < 128 ^ k
 | 0 => by cases s <;> simp [decN]
 | k + 1 => by
   have := yee s k
   rw [zf0, Nat.pow_succ]
   have h : cb s k % 128 * 128 ^ k <= 127 * 128 ^ k := Nat.mul_le_mul_right _ (by omega)
   omega
theorem yjg : ∀ (k : Nat) (s : List UInt8), cb s k < 128 -> 0 < cb s k -> 0 < decN s (k + 1) := by
 intro k s h h0
 rw [zf0]
 have h1 : 0 < 128 ^ k := Nat.pow_pos (by decide)
 have : 0 < cb s k % 128 * 128 ^ k := Nat.mul_pos (by omega) h1
 omega
theorem ytj : ∀ (k : Nat) (s : List UInt8), k < s.length -> (∀ j, j < k -> 128 <= cb s j) -> cb s k < 128 -> (0 < cb s k \/ k = 0) -> zdc (decN s (k + 1)) = s.take (k + 1)
 | _, [], h, _, _, _ => by simp at h
 | 0, b :: r, h, ha, hc, h0 => by
   rw [zu3] at hc
   rw [decN, decN, zbc (by omega), List.take_succ_cons, List.take_zero]
   congr 1
   apply UInt8.toNat_inj.1
   simp; omega
 | k + 1, b :: r, h, ha, hc, h0 => by
   rw [zu4] at hc h0
   have hp : 0 < cb r k := by omega
   have h2 := yjg k r hc hp
   have hb := ha 0 (by omega)
   rw [zu3] at hb
   have hb' := b.toNat_lt
   have ih := ytj k r (by simpa using h) (fun j hj => by have := ha (j + 1) (by omega); rwa [zu4] at this) hc (.inl hp)
   rw [decN, zdb (by omega), show (b.toNat % 128 + 128 * decN r (k + 1)) / 128 = decN r (k + 1) by omega, ih, List.take_succ_cons]
   congr 1
   apply UInt8.toNat_inj.1
   simp; omega
theorem zp6 {s : List UInt8} : ∀ k, k <= 9 -> k <= s.length -> (∀ j, j < k -> 128 <= cb s j) -> lng s 10 0 0 = lng s (10 - k) k (decN s k)
 | 0, _, _, _ => by cases s <;> rfl
 | k + 1, h9, hl, ha => by
   rw [zp6 k (by omega) (by omega) (fun j hj => ha j (by omega)), show 10 - k = (10 - (k + 1)) + 1 by omega, lng, if_neg (by omega), if_neg (by omega), if_pos (ha k (by omega)), zf0, show (2 : Nat) ^ (7 * k) = 128 ^ k by rw [Nat.pow_mul]]
theorem yi5 {s : List UInt8} {k : Nat} (h9 : k <= 9) (hl : k < s.length) (ha : ∀ j, j < k -> 128 <= cb s j) (hc : cb s k < 128) :
   lng s 10 0 0 = if k = 9 /\ 1 < cb s k then (0, 0, 4) else if 0 < cb s k \/ k = 0 then (decN s (k + 1), k + 1, 0) else (0, 0, 4) := by
 rw [zp6 k h9 (by omega) ha, show 10 - k = (9 - k) + 1 by omega, lng, if_neg (by omega)]
 by_cases h : k = 9 /\ 1 < cb s k
 · rw [if_pos h, if_pos h]
 · rw [if_neg h, if_neg h, if_neg (by omega), zf0, show (2 : Nat) ^ (7 * k) = 128 ^ k by rw [Nat.pow_mul]]
theorem zw4 {s : List UInt8} (hl : 9 < s.length) (ha : ∀ j, j < 10 -> 128 <= cb s j) : ¬ zdj s = 0 := by
 unfold zdj
 rw [zp6 9 (by omega) (by omega) (fun j hj => ha j (by omega)), lng, if_neg (by omega), if_pos ⟨rfl, by have := ha 9 (by omega); omega⟩]
 decide
theorem yni {s : List UInt8} (hl : s.length <= 9) (ha : ∀ j, j < s.length -> 128 <= cb s j) : ¬ zdj s = 0 := by
 unfold zdj
 rw [zp6 s.length hl (Nat.le_refl _) ha, show 10 - s.length = (9 - s.length) + 1 by omega, lng, if_pos (Nat.le_refl _)]
 decide
def dgS (s : List UInt8) (i : Nat) : Int := ((decN s i % 18446744073709551616 : Nat) : Int)
def zx8 (i : Nat) : Int := ((128 ^ i % 18446744073709551616 : Nat) : Int)
theorem yrf {s : List UInt8} {k : Nat} (h9 : k <= 9) (hl : k < s.length) (ha : ∀ j, j < k -> 128 <= cb s j) (hc : cb s k < 128) :
   (zar (dgS s (k + 1)) = s.take (k + 1) ↔ zdj s = 0) /\ (zdj s = 0 -> zb2 s = dgS s (k + 1) /\ ze2 s = (k : Int) + 1) := by
 have hs := yi5 h9 hl ha hc
 have hso : zbx (dgS s (k + 1)) := ⟨by unfold dgS; omega, by unfold dgS; omega⟩
 have fwd : zar (dgS s (k + 1)) = s.take (k + 1) -> zdj s = 0 := by
   intro h
   have := (zw3 hso (s.drop (k + 1))).2.2
   rwa [h, List.take_append_drop] at this
 have bwd : zdj s = 0 -> (0 < cb s k \/ k = 0) /\ ¬ (k = 9 /\ 1 < cb s k) := by
   intro h
   unfold zdj at h
   rw [hs] at h
   by_cases h1 : k = 9 /\ 1 < cb s k
   · rw [if_pos h1] at h; exact absurd h (by decide)
   · rw [if_neg h1] at h
     by_cases h2 : 0 < cb s k \/ k = 0
     · exact ⟨h2, h1⟩
     · rw [if_neg h2] at h; exact absurd h (by decide)
 have val : zdj s = 0 -> dgS s (k + 1) = (decN s (k + 1) : Int) := by
   intro h
   obtain ⟨h2, h1⟩ := bwd h
   have hb : decN s (k + 1) < 18446744073709551616 := by
     have hd := yee s k
     rw [zf0]
     by_cases hk : k = 9
     · subst hk
       have : cb s 9 % 128 * 128 ^ 9 <= 1 * 128 ^ 9 := Nat.mul_le_mul_right _ (by omega)
       omega
     · have h8 : 128 ^ k <= 128 ^ 8 := Nat.pow_le_pow_right (by decide) (by omega)
       have : cb s k % 128 * 128 ^ k <= 127 * 128 ^ k := Nat.mul_le_mul_right _ (by omega)
       omega
   unfold dgS
   rw [Nat.mod_eq_of_lt hb]
 refine ⟨⟨fwd, fun h => ?_⟩, fun h => ?_⟩
 · have hb := bwd h
   have hv := val h
   unfold zar
   rw [hv, Int.toNat_natCast]
   exact ytj k s hl ha hc hb.1
 · have hb := bwd h
   have hv := val h
   unfold zb2 ze2
   rw [hs, if_neg hb.2, if_pos hb.1, hv]
   exact ⟨rfl, by show ((k + 1 : Nat) : Int) = _; omega⟩
def yl7 (s : List UInt8) : Prop := s.length < 10 /\ ∀ j, j < s.length -> 128 <= cb s j
open Classical in
noncomputable def rlE (s : List UInt8) : Int := if zdj s = 0 then 0 else if yl7 s then 3 else 4
def rlN (s : List UInt8) : Int := if zdj s = 0 then zb2 s else 0
def rlK (s : List UInt8) : Int := if zdj s = 0 then ze2 s else 0
noncomputable def zsu (L : zaa) : zcl := (48, fun xs => match xs with | [.str s] => some (L2 L upto 900000 s, .tup [.int .u64 (L rlN s), .int .i64 (L rlK s), .int .i64 (L rlE s)]) | _ => none)
def yvf (s : List UInt8) (z : Nat) : Prop := 1 <= z /\ z <= s.length + 1 /\ ∀ j, j < z - 1 -> 128 <= cb s j
def leZ (z : Int) (i : Nat) : Prop := (i : Int) <= z
def lefZ (z : Int) (i : Nat) : Nat := (z - i).toNat
theorem yoy (s : List UInt8) (i : Nat) : zx8 i * 128 % 18446744073709551616 = zx8 (i + 1) /\
   (dgS s i + (((s.getD i 0).toNat : Int).tmod 128 % 18446744073709551616 * zx8 i % 18446744073709551616)) % 18446744073709551616 = dgS s (i + 1) := by
 have a : ((s.getD i 0).toNat : Int).tmod 128 % 18446744073709551616 = ((cb s i % 128 : Nat) : Int) := by
   rw [Int.tmod_eq_emod_of_nonneg (by omega)]
   unfold cb; omega
 have m : (18446744073709551616 : Int) = ((18446744073709551616 : Nat) : Int) := rfl
 constructor
 · unfold zx8
   rw [m, show (128 : Int) = ((128 : Nat) : Int) from rfl, <- Int.natCast_mul, <- Int.natCast_emod, Nat.pow_succ]
   congr 1
   simp [Nat.mul_mod]
 · rw [a]
   unfold dgS zx8
   rw [m, <- Int.natCast_mul, <- Int.natCast_emod, <- Int.natCast_add, <- Int.natCast_emod, zf0]
   congr 1
   simp [Nat.add_mod, Nat.mul_mod]
def rlA (L : zaa) (s : List UInt8) : Nat -> St -> Option Ann := fun id st => match id with
 | 0 => some ⟨Nat, fun z => [(5, .int .i64 (L za8 z))], fun _ => [], [0], [], fun z => L2 L yvf s z, fun z => L2 L (fun (s : List UInt8) (z : Nat) => s.length + 1 - z) s z⟩
 | 2 => zsi st 5 fun z => some ⟨Nat, fun i => [(8, .int .i64 (L za8 i)), (6, .int .u64 (L2 L dgS s i)), (7, .int .u64 (L zx8 i))], fun _ => [], [0, 5], [],
     fun i => L2 L leZ z i, fun i => L2 L lefZ z i⟩
 | _ => none
theorem yb9 {s : List UInt8} (h : ¬ zdj s = 0) (h2 : ¬ yl7 s) : 0 = rlN s /\ 0 = rlK s /\ 4 = rlE s := by
 unfold rlN rlK rlE
 rw [if_neg h, if_neg h, if_neg h, if_neg h2]
 exact ⟨rfl, rfl, rfl⟩
theorem zxz : zcs Tryz.prog (zsu std) := by
 intro xs p r h hp
 dsimp only [zsu] at h |-
 split at h <;> cases h
 try simp only [L2, L3, std] at hp |-
 rename_i s
 refine zab (T := tt) (S := fun L => zbi [zom L]) (lo := fun L => rlA L s) (lb := noA) 5 (fn := Tryz.f48) rfl rfl (by kernel_rfl) (by kernel_rfl) rfl zah (za9 ⟨zst, trivial⟩) (by kernel_rfl) ?_
 have hl : s.length <= 900000 := hp
 intro L P' Q' hL hP hQ
 (cbv; try simp only [syT, true_and, and_true])
 refine ⟨⟨1, ?_⟩, fun z hz => ?_⟩
 · (cbv; try simp only [syT, true_and, and_true])
   (subst hL; subst hQ; simp only [L2, L3, std] at *; try simp only [syS, reduceCtorEq, Int.reduceToNat, Int.reduceAdd, Int.reduceSub] at *)
   exact ⟨Nat.le_refl _, by omega, fun j hj => by omega⟩
 · cbv at hz
   (cbv; try simp only [syT, true_and, and_true])
   refine ⟨fun h1 => ⟨?_, fun h2 => ⟨z + 1, ?_⟩, fun h2 => ⟨fun h3 => ?_, fun h3 => ⟨⟨0, ?_⟩, fun i hi => ?_⟩⟩⟩, fun h1 => ?_⟩
   · (subst hL; subst hQ; simp only [L2, L3, std] at *; try simp only [syS, reduceCtorEq, Int.reduceToNat, Int.reduceAdd, Int.reduceSub] at *)
     have := hz.1
     have := hz.2.1
     omega
   · (cbv; try simp only [syT, true_and, and_true])
     (subst hL; subst hQ; simp only [L2, L3, std] at *; try simp only [syS, reduceCtorEq, Int.reduceToNat, Int.reduceAdd, Int.reduceSub] at *)
     have z1 := hz.1
     have z2 := hz.2.1
     have ez : ((z : Int) - 1 + 9223372036854775808) % 18446744073709551616 - 9223372036854775808 = ((z - 1 : Nat) : Int) := by omega
     rw [ez, Int.toNat_natCast] at h2
     refine ⟨by omega, ⟨by omega, by omega, fun j hj => ?_⟩, by omega⟩
     by_cases hjz : j < z - 1
     · exact hz.2.2 j hjz
     · have : j = z - 1 := by omega
       subst this
       unfold cb
       omega
   · (subst hL; subst hQ; simp only [L2, L3, std] at *; try simp only [syS, reduceCtorEq, Int.reduceToNat, Int.reduceAdd, Int.reduceSub] at *)
     have z1 := hz.1
     have z2 := hz.2.1
     have hb : ¬ zdj s = 0 := zw4 (by omega) (fun j hj => hz.2.2 j (by omega))
     exact yb9 hb (fun h => by have := h.1; omega)
   · (cbv; try simp only [syT, true_and, and_true])
     (subst hL; subst hQ; simp only [L2, L3, std] at *; try simp only [syS, reduceCtorEq, Int.reduceToNat, Int.reduceAdd, Int.reduceSub] at *)
     refine ⟨rfl, ?_, ?_⟩
     · cases s <;> rfl
     · show ((0 : Nat) : Int) <= z
       omega
   · cbv at hi
     (cbv; try simp only [syT, true_and, and_true])
     refine ⟨fun h4 => ⟨?_, ?_, ⟨i + 1, ?_⟩⟩, fun h4 => ⟨?_, ?_, fun h5 => ?_, fun h5 => ?_⟩⟩
     · (subst hL; subst hQ; simp only [L2, L3, std] at *; try simp only [syS, reduceCtorEq, Int.reduceToNat, Int.reduceAdd, Int.reduceSub] at *)
       have hi : (i : Int) <= z := hi
       omega
     · (subst hL; subst hQ; simp only [L2, L3, std] at *; try simp only [syS, reduceCtorEq, Int.reduceToNat, Int.reduceAdd, Int.reduceSub] at *)
       decide
     · (cbv; try simp only [syT, true_and, and_true])
       (subst hL; subst hQ; simp only [L2, L3, std] at *; try simp only [syS, reduceCtorEq, Int.reduceToNat, Int.reduceAdd, Int.reduceSub] at *)
       have hi : (i : Int) <= z := hi
       obtain ⟨d1, d2⟩ := yoy s i
       refine ⟨d1, d2, by omega, ?_, ?_⟩
       · show ((i + 1 : Nat) : Int) <= z
         omega
       · show ((z : Int) - ((i + 1 : Nat) : Int)).toNat + 1 <= ((z : Int) - (i : Int)).toNat
         omega
     · subst hL
       exact ⟨by show 0 <= dgS s i; unfold dgS; omega, by show dgS s i < _; unfold dgS; omega⟩
     · (subst hL; subst hQ; simp only [L2, L3, std] at *; try simp only [syS, reduceCtorEq, Int.reduceToNat, Int.reduceAdd, Int.reduceSub] at *)
       omega
     · (subst hL; subst hQ; simp only [L2, L3, std] at *; try simp only [syS, reduceCtorEq, Int.reduceToNat, Int.reduceAdd, Int.reduceSub] at *)
       have z1 := hz.1
       have z2 := hz.2.1
       have ez : ((z : Int) - 1 + 9223372036854775808) % 18446744073709551616 - 9223372036854775808 = ((z - 1 : Nat) : Int) := by omega
       rw [ez, Int.toNat_natCast] at h2
       have hi : (i : Int) <= z := hi
       have iz : i = z := by omega
       subst iz
       have R := yrf (s := s) (k := i - 1) (by omega) (by omega) hz.2.2 (by unfold cb; omega)
       rw [show i - 1 + 1 = i by omega] at R
       exact yb9 (fun h => h5 (R.1.2 h)) (fun h => by
         have := h.2 (i - 1) (by omega)
         unfold cb at this
         omega)
     · (subst hL; subst hQ; simp only [L2, L3, std] at *; try simp only [syS, reduceCtorEq, Int.reduceToNat, Int.reduceAdd, Int.reduceSub] at *)
       have z1 := hz.1
       have z2 := hz.2.1
       have ez : ((z : Int) - 1 + 9223372036854775808) % 18446744073709551616 - 9223372036854775808 = ((z - 1 : Nat) : Int) := by omega
       rw [ez, Int.toNat_natCast] at h2
       have hi : (i : Int) <= z := hi
       have iz : i = z := by omega
       subst iz
       have R := yrf (s := s) (k := i - 1) (by omega) (by omega) hz.2.2 (by unfold cb; omega)
       rw [show i - 1 + 1 = i by omega] at R
       have h0 := R.1.1 h5
       obtain ⟨e1, e2⟩ := R.2 h0
       unfold rlN rlK rlE
       rw [if_pos h0, if_pos h0, if_pos h0, e1, e2]
       exact ⟨rfl, by omega, rfl⟩
   · (subst hL; subst hQ; simp only [L2, L3, std] at *; try simp only [syS, reduceCtorEq, Int.reduceToNat, Int.reduceAdd, Int.reduceSub] at *)
     have z1 := hz.1
     have z2 := hz.2.1
     refine ⟨fun h => ?_, fun h => ?_⟩
     · exact yb9 (zw4 (by omega) (fun j hj => hz.2.2 j (by omega))) (fun h => by have := h.1; omega)
     · have hb : ¬ zdj s = 0 := yni (by omega) (fun j hj => hz.2.2 j (by omega))
       unfold rlN rlK rlE
       rw [if_neg hb, if_neg hb, if_neg hb, if_pos ⟨by omega, fun j hj => hz.2.2 j (by omega)⟩]
       exact ⟨rfl, rfl, rfl⟩
end Sy
end Go.Proofs.YtlphgephdhadhaaGreat
namespace Go.Proofs.YtlphgephdhadhaaGreat
namespace Sy
open Go Go.RowKit
set_option maxRecDepth 100000
set_option linter.unusedSimpArgs false
set_option linter.unusedVariables false
theorem zhm {s : List UInt8} (h : ¬ s = []) : (za3 s).length < s.length := by
 have : 0 < s.length := List.length_pos_iff.2 h
 unfold za3
 rw [List.length_drop, List.length_drop]
 omega
mutual
noncomputable def zc3 (d : Nat) (s : List UInt8) : NR :=
 if hs : s = [] then zbu 3
 else if cb s 0 < 1 \/ 3 < cb s 0 then zbu 10
 else if ¬ rlE (s.drop 1) = 0 then zbu (rlE (s.drop 1))
 else if cb s 0 = 1 then ⟨.mk 1 (zb2 (s.drop 1)) [] [], za3 s, 0⟩
 else if cb s 0 = 2 then
   if ((za3 s).length : Int) < zb2 (s.drop 1) then zbu 3
   else ⟨.mk 2 0 ((za3 s).take (zb2 (s.drop 1)).toNat) [], (za3 s).drop (zb2 (s.drop 1)).toNat, 0⟩
 else if d = 6 then zbu 8
 else zek d (zb2 (s.drop 1)) [] (za3 s)
termination_by 2 * s.length
decreasing_by
 have := zhm hs
 omega
noncomputable def zek (d : Nat) (m : Int) (acc : List CV) (s : List UInt8) : NR :=
 if m <= 0 then ⟨.mk 3 0 [] acc, s, 0⟩
 else if ¬ (zc3 (d + 1) s).e = 0 then zbu (zc3 (d + 1) s).e
 else if h : (zc3 (d + 1) s).r.length < s.length then zek d (m - 1) (acc ++ [(zc3 (d + 1) s).v]) (zc3 (d + 1) s).r
 else zbu 8
termination_by 2 * s.length + 1
decreasing_by
 all_goals omega
end
theorem zjp {s : List UInt8} : rlE s = 0 ↔ zdj s = 0 := by
 unfold rlE
 by_cases h : zdj s = 0
 · rw [if_pos h]; exact ⟨fun _ => h, fun _ => rfl⟩
 · rw [if_neg h]
   refine ⟨fun h2 => ?_, fun h2 => absurd h2 h⟩
   split at h2 <;> exact absurd h2 (by decide)
section
variable {d : Nat} {s : List UInt8}
theorem yue (h1 : s = []) : zc3 d s = zbu 3 := by rw [zc3, dif_pos h1]
variable (h1 : ¬ s = [])
include h1
theorem yr7 (h2 : cb s 0 < 1 \/ 3 < cb s 0) : zc3 d s = zbu 10 := by rw [zc3, dif_neg h1, if_pos h2]
variable (h2 : ¬ (cb s 0 < 1 \/ 3 < cb s 0))
include h2
theorem yud (h3 : ¬ zdj (s.drop 1) = 0) : zc3 d s = zbu (rlE (s.drop 1)) /\ ¬ rlE (s.drop 1) = 0 := by
 have h3' : ¬ rlE (s.drop 1) = 0 := fun h => h3 (zjp.1 h)
 exact ⟨by rw [zc3, dif_neg h1, if_neg h2, if_pos h3'], h3'⟩
variable (h3 : zdj (s.drop 1) = 0)
include h3
theorem yuc (h4 : cb s 0 = 1) : zc3 d s = ⟨.mk 1 (zb2 (s.drop 1)) [] [], za3 s, 0⟩ := by rw [zc3, dif_neg h1, if_neg h2, if_neg (fun h => h (zjp.2 h3)), if_pos h4]
variable (h4 : ¬ cb s 0 = 1)
include h4
theorem yub (h5 : cb s 0 = 2) (h6 : ((za3 s).length : Int) < zb2 (s.drop 1)) : zc3 d s = zbu 3 := by rw [zc3, dif_neg h1, if_neg h2, if_neg (fun h => h (zjp.2 h3)), if_neg h4, if_pos h5, if_pos h6]
theorem yua (h5 : cb s 0 = 2) (h6 : ¬ ((za3 s).length : Int) < zb2 (s.drop 1)) : zc3 d s = ⟨.mk 2 0 ((za3 s).take (zb2 (s.drop 1)).toNat) [], (za3 s).drop (zb2 (s.drop 1)).toNat, 0⟩ := by rw [zc3, dif_neg h1, if_neg h2, if_neg (fun h => h (zjp.2 h3)), if_neg h4, if_pos h5, if_neg h6]
variable (h5 : ¬ cb s 0 = 2)
include h5
theorem yu9 (h6 : d = 6) : zc3 d s = zbu 8 := by rw [zc3, dif_neg h1, if_neg h2, if_neg (fun h => h (zjp.2 h3)), if_neg h4, if_neg h5, if_pos h6]
theorem yu8 (h6 : ¬ d = 6) : zc3 d s = zek d (zb2 (s.drop 1)) [] (za3 s) := by rw [zc3, dif_neg h1, if_neg h2, if_neg (fun h => h (zjp.2 h3)), if_neg h4, if_neg h5, if_neg h6]
end
theorem yh4 {d : Nat} {m : Int} {acc : List CV} {s : List UInt8} (h : m <= 0) : zek d m acc s = ⟨.mk 3 0 [] acc, s, 0⟩ := by rw [zek, if_pos h]
theorem yh3 {d : Nat} {m : Int} {acc : List CV} {s : List UInt8} (h : ¬ m <= 0) (h1 : ¬ (zc3 (d + 1) s).e = 0) : zek d m acc s = zbu (zc3 (d + 1) s).e := by rw [zek, if_neg h, if_pos h1]
theorem zh1 (s : List UInt8) : (∀ d, (zc3 d s).e = 0 -> (zc3 d s).r.length < s.length) /\ (∀ d m acc, (zek d m acc s).e = 0 -> (zek d m acc s).r.length <= s.length) := by
 induction hn : s.length using Nat.strongRecOn generalizing s with
 | _ n ih =>
   subst hn
   constructor
   · intro d
     by_cases h1 : s = []
     · rw [yue h1]; intro h; exact absurd h (by decide)
     by_cases h2 : cb s 0 < 1 \/ 3 < cb s 0
     · rw [yr7 h1 h2]; intro h; exact absurd h (by decide)
     by_cases h3 : zdj (s.drop 1) = 0
     · have hr := zhm h1
       by_cases h4 : cb s 0 = 1
       · rw [yuc h1 h2 h3 h4]; intro _; exact hr
       by_cases h5 : cb s 0 = 2
       · by_cases h6 : ((za3 s).length : Int) < zb2 (s.drop 1)
         · rw [yub h1 h2 h3 h4 h5 h6]; intro h; exact absurd h (by decide)
         · rw [yua h1 h2 h3 h4 h5 h6]; intro _
           show ((za3 s).drop _).length < _
           rw [List.length_drop]; omega
       by_cases h6 : d = 6
       · rw [yu9 h1 h2 h3 h4 h5 h6]; intro h; exact absurd h (by decide)
       · rw [yu8 h1 h2 h3 h4 h5 h6]; intro h
         have := (ih _ hr _ rfl).2 _ _ _ h
         omega
     · obtain ⟨e, h⟩ := yud (d := d) h1 h2 h3
       rw [e]; intro h'; exact absurd h' h
   · intro d m acc
     by_cases h : m <= 0
     · rw [yh4 h]; intro _; exact Nat.le_refl _
     by_cases h1 : (zc3 (d + 1) s).e = 0
     · rw [zek, if_neg h, if_neg (fun x => x h1)]
       by_cases h2 : (zc3 (d + 1) s).r.length < s.length
       · rw [dif_pos h2]; intro h3
         have := (ih _ h2 _ rfl).2 _ _ _ h3
         omega
       · rw [dif_neg h2]; intro h; exact absurd h (by decide)
     · rw [yh3 h h1]; intro h2; exact absurd h2 h1
theorem ymh (s : List UInt8) : (∀ d, (zc3 d s).e = 0 -> (zc3 d s).r <:+ s) /\ (∀ d m acc, (zek d m acc s).e = 0 -> (zek d m acc s).r <:+ s) := by
 induction hn : s.length using Nat.strongRecOn generalizing s with
 | _ n ih =>
   subst hn
   have rest : za3 s <:+ s := (List.drop_suffix _ _).trans (List.drop_suffix _ _)
   have hv : ∀ d, (zc3 d s).e = 0 -> (zc3 d s).r <:+ s := by
     intro d
     by_cases h1 : s = []
     · rw [yue h1]; intro h; exact absurd h (by decide)
     by_cases h2 : cb s 0 < 1 \/ 3 < cb s 0
     · rw [yr7 h1 h2]; intro h; exact absurd h (by decide)
     by_cases h3 : zdj (s.drop 1) = 0
     · have hr := zhm h1
       by_cases h4 : cb s 0 = 1
       · rw [yuc h1 h2 h3 h4]; intro _; exact rest
       by_cases h5 : cb s 0 = 2
       · by_cases h6 : ((za3 s).length : Int) < zb2 (s.drop 1)
         · rw [yub h1 h2 h3 h4 h5 h6]; intro h; exact absurd h (by decide)
         · rw [yua h1 h2 h3 h4 h5 h6]; intro _
           exact (List.drop_suffix _ _).trans rest
       by_cases h6 : d = 6
       · rw [yu9 h1 h2 h3 h4 h5 h6]; intro h; exact absurd h (by decide)
       · rw [yu8 h1 h2 h3 h4 h5 h6]; intro h
         exact ((ih _ hr _ rfl).2 _ _ _ h).trans rest
     · obtain ⟨e, h⟩ := yud (d := d) h1 h2 h3
       rw [e]; intro h'; exact absurd h' h
   refine ⟨hv, ?_⟩
   · intro d m acc
     by_cases h : m <= 0
     · rw [yh4 h]; intro _; exact List.suffix_refl _
     by_cases h1 : (zc3 (d + 1) s).e = 0
     · have h2 := (zh1 s).1 _ h1
       rw [zek, if_neg h, if_neg (fun x => x h1), dif_pos h2]
       intro h3
       exact ((ih _ h2 _ rfl).2 _ _ _ h3).trans (hv _ h1)
     · rw [yh3 h h1]; intro h2; exact absurd h2 h1
theorem yre {d : Nat} {m : Int} {acc : List CV} {s : List UInt8} (h : ¬ m <= 0) (h1 : (zc3 (d + 1) s).e = 0) : zek d m acc s = zek d (m - 1) (acc ++ [(zc3 (d + 1) s).v]) (zc3 (d + 1) s).r := by
 rw [zek, if_neg h, if_neg (fun x => x h1), dif_pos ((zh1 s).1 _ h1)]
def SimV (s : List UInt8) : Prop := ∀ (st : List Lv) (f : Nat), s.length < f ->
 ((zc3 st.length s).e = 0 -> ∃ f', (zc3 st.length s).r.length < f' /\ zaw f st s = zbn (zaw f') st (zc3 st.length s).v (zc3 st.length s).r) /\
 (¬ (zc3 st.length s).e = 0 -> ∃ e, e ≠ 0 /\ zaw f st s = zbu e)
def SimL (s : List UInt8) : Prop := ∀ (st : List Lv) (m : Int) (acc : List CV) (f : Nat), 0 <= m -> s.length < f ->
 ((zek st.length m acc s).e = 0 -> ∃ f', (zek st.length m acc s).r.length < f' /\ zbz (zaw f) (⟨m, acc⟩ :: st) s = zbn (zaw f') st (zek st.length m acc s).v (zek st.length m acc s).r) /\
 (¬ (zek st.length m acc s).e = 0 -> ∃ e, e ≠ 0 /\ zbz (zaw f) (⟨m, acc⟩ :: st) s = zbu e)
theorem ymi (s : List UInt8) : SimV s /\ SimL s := by
 induction hn : s.length using Nat.strongRecOn generalizing s with
 | _ n ih =>
   subst hn
   have hv : SimV s := by
     intro st f hf
     obtain ⟨g, rfl⟩ : ∃ g, f = g + 1 := ⟨f - 1, by omega⟩
     have bad : ∀ e : Int, e ≠ 0 -> zc3 st.length s = zbu e -> ∀ e', e' ≠ 0 -> zaw (g + 1) st s = zbu e' ->
         ((zc3 st.length s).e = 0 -> ∃ f', (zc3 st.length s).r.length < f' /\ zaw (g + 1) st s = zbn (zaw f') st (zc3 st.length s).v (zc3 st.length s).r) /\
         (¬ (zc3 st.length s).e = 0 -> ∃ e, e ≠ 0 /\ zaw (g + 1) st s = zbu e) := by
       intro e he h e' he' h'
       rw [h]
       exact ⟨fun h => absurd h he, fun _ => ⟨e', he', h'⟩⟩
     by_cases h1 : s = []
     · exact bad 3 (by decide) (yue h1) 3 (by decide) (by rw [zaw, if_pos h1])
     by_cases h2 : cb s 0 < 1 \/ 3 < cb s 0
     · exact bad 10 (by decide) (yr7 h1 h2) 10 (by decide) (by rw [zaw, if_neg h1, if_pos h2])
     by_cases h3 : zdj (s.drop 1) = 0
     · have hr := zhm h1
       have h3' : ¬ zdj (s.drop 1) ≠ 0 := fun h => h h3
       by_cases h4 : cb s 0 = 1
       · rw [yuc h1 h2 h3 h4]
         exact ⟨fun _ => ⟨g, by show (za3 s).length < g; omega, by rw [zaw, if_neg h1, if_neg h2, if_neg h3', if_pos h4]⟩, fun h => absurd rfl h⟩
       by_cases h5 : cb s 0 = 2
       · by_cases h6 : ((za3 s).length : Int) < zb2 (s.drop 1)
         · exact bad 3 (by decide) (yub h1 h2 h3 h4 h5 h6) 3 (by decide) (by rw [zaw, if_neg h1, if_neg h2, if_neg h3', if_neg h4, if_pos h5, if_pos h6])
         · rw [yua h1 h2 h3 h4 h5 h6]
           exact ⟨fun _ => ⟨g, by show ((za3 s).drop _).length < g; rw [List.length_drop]; omega, by rw [zaw, if_neg h1, if_neg h2, if_neg h3', if_neg h4, if_pos h5, if_neg h6]⟩, fun h => absurd rfl h⟩
       by_cases h6 : st.length = 6
       · exact bad 8 (by decide) (yu9 h1 h2 h3 h4 h5 h6) 8 (by decide) (by rw [zaw, if_neg h1, if_neg h2, if_neg h3', if_neg h4, if_neg h5, if_pos h6])
       · rw [yu8 h1 h2 h3 h4 h5 h6, zaw, if_neg h1, if_neg h2, if_neg h3', if_neg h4, if_neg h5, if_neg h6]
         exact (ih _ hr _ rfl).2 st _ [] g (zgk h3).2.2.1 (by omega)
     · obtain ⟨e, h⟩ := yud (d := st.length) h1 h2 h3
       exact bad _ h e _ h3 (by rw [zaw, if_neg h1, if_neg h2, if_pos h3])
   refine ⟨hv, ?_⟩
   intro st m acc f hm hf
   by_cases h : m <= 0
   · have : m = 0 := by omega
     subst this
     rw [yh4 h]
     exact ⟨fun _ => ⟨f, hf, by rw [zbz, if_pos (show (0 : Int) = 0 from rfl)]⟩, fun h => absurd rfl h⟩
   have hs : zbz (zaw f) (⟨m, acc⟩ :: st) s = zaw f (⟨m, acc⟩ :: st) s := by rw [zbz, if_neg (show ¬ m = 0 by omega)]
   obtain ⟨v1, v2⟩ := hv (⟨m, acc⟩ :: st) f hf
   rw [List.length_cons] at v1 v2
   by_cases h1 : (zc3 (st.length + 1) s).e = 0
   · rw [yre h h1, hs]
     obtain ⟨f', h2, h3⟩ := v1 h1
     have hlt := (zh1 s).1 _ h1
     have := (ih _ hlt _ rfl).2 st (m - 1) (acc ++ [(zc3 (st.length + 1) s).v]) f' (by omega) h2
     have e : zaw f (⟨m, acc⟩ :: st) s = zbz (zaw f') (⟨m - 1, acc ++ [(zc3 (st.length + 1) s).v]⟩ :: st) (zc3 (st.length + 1) s).r := by
       rw [h3, zbn, zbz]
     rw [e]
     exact this
   · rw [yh3 h h1, hs]
     obtain ⟨e, he, h3⟩ := v2 h1
     exact ⟨fun h => absurd h h1, fun _ => ⟨e, he, h3⟩⟩
theorem yoe {s : List UInt8} (hl : s.length <= 8192) : (zj6 s = 0 ↔ (zc3 0 s).e = 0 /\ (zc3 0 s).r = []) /\ (zj6 s = 0 -> zc1 s = (zc3 0 s).v) := by
 have ht : zb6 s = zaw (s.length + 1) [] s := by unfold zb6; rw [if_neg (by omega)]
 obtain ⟨v1, v2⟩ := (ymi s).1 [] (s.length + 1) (by omega)
 simp only [List.length_nil] at v1 v2
 by_cases h : (zc3 0 s).e = 0
 · obtain ⟨f', _, h2⟩ := v1 h
   have e : zb6 s = ⟨(zc3 0 s).v, (zc3 0 s).r, 0⟩ := by rw [ht, h2, zbn]
   have iff : zj6 s = 0 ↔ (zc3 0 s).r = [] := by
     unfold zj6
     rw [e]
     by_cases hr : (zc3 0 s).r = []
     · rw [if_neg (fun x => x.2 hr)]; exact ⟨fun _ => hr, fun _ => rfl⟩
     · rw [if_pos ⟨rfl, hr⟩]; exact ⟨fun x => absurd x (by decide), fun x => absurd x hr⟩
   refine ⟨⟨fun x => ⟨h, iff.1 x⟩, fun x => iff.2 x.2⟩, fun x => ?_⟩
   unfold zc1
   rw [if_pos x, e]
 · obtain ⟨e, he, h2⟩ := v2 h
   have e1 : zj6 s = e := by
     unfold zj6
     rw [ht, h2, if_neg (fun x => he x.1)]; rfl
   refine ⟨⟨fun x => absurd (e1.symm.trans x) he, fun x => absurd x.1 h⟩, fun x => absurd (e1.symm.trans x) he⟩
end Sy
end Go.Proofs.YtlphgephdhadhaaGreat
namespace Go.Proofs.YtlphgephdhadhaaGreat
namespace Sy
open Go Go.RowKit
set_option maxRecDepth 100000
set_option linter.unusedSimpArgs false
set_option linter.unusedVariables false
noncomputable def zoo (s : List UInt8) (a d : Int) : NR := zc3 d.toNat (s.drop a.toNat)
noncomputable def zku (s : List UInt8) (a d : Int) : CV := if (zoo s a d).e = 0 then (zoo s a d).v else .mk 0 0 [] []
noncomputable def zn0 (s : List UInt8) (a d : Int) : Int := if (zoo s a d).e = 0 then (s.length : Int) - ((zoo s a d).r.length : Int) else 0
noncomputable def zmz (s : List UInt8) (a d : Int) : Int := (zoo s a d).e
def zop (N : Nat) (s : List UInt8) (a d : Int) : Prop := 0 <= a /\ a <= (s.length : Int) /\ (s.length : Int) - a < N /\ 0 <= d /\ d <= 6 /\ s.length <= 900000
noncomputable def yh1 (N : Nat) (L : zaa) : zcl := (32, fun xs => match xs with
 | [.str s, .int .i64 a, .int .i64 d] => some (L (L3 L (zop N) s a) d, .tup [cvA L (L3 L zku s a d), .int .i64 (L3 L zn0 s a d), .int .i64 (L3 L zmz s a d)])
 | _ => none)
theorem zi4 {s : List UInt8} {a d e : Int} (he : ¬ e = 0) (h : zc3 d.toNat (s.drop a.toNat) = zbu e) : zb9 (cvA std (zku s a d)) (.agg [.int .i64 0, .int .u64 0, .str [], .nils]) /\ 0 = zn0 s a d /\ e = zmz s a d := by
 have e1 : (zoo s a d).e = e := by rw [zoo, h]; rfl
 have e2 : ¬ (zoo s a d).e = 0 := by rw [e1]; exact he
 refine ⟨?_, (if_neg e2).symm, e1.symm⟩
 rw [zku, if_neg e2]
 show zb9 (.agg [.int .i64 0, .int .u64 0, .str [], .lst 4 0 (zgq (.mk 0 0 [] []))]) _
 simp [zc2, zch, zdf, zbh]
theorem yb5 {s : List UInt8} {a d : Int} {k n : Int} {t r : List UInt8} (h : zc3 d.toNat (s.drop a.toNat) = ⟨.mk k n t [], r, 0⟩) : zb9 (cvA std (zku s a d)) (.agg [.int .i64 k, .int .u64 n, .str t, .nils]) /\ (s.length : Int) - (r.length : Int) = zn0 s a d /\ 0 = zmz s a d := by
 have e1 : zoo s a d = ⟨.mk k n t [], r, 0⟩ := h
 have e2 : (zoo s a d).e = 0 := by rw [e1]
 refine ⟨?_, by rw [zn0, if_pos e2, e1], by rw [zmz, e1]⟩
 rw [zku, if_pos e2, e1]
 show zb9 (.agg [.int .i64 k, .int .u64 n, .str t, .lst 4 0 (zgq (.mk k n t []))]) _
 simp [zc2, zch, zdf, zbh]
theorem zio {N : Nat} {s : List UInt8} {a d : Int} (h : zop N s a d) (ha : a < (s.length : Int)) :
   ¬ s.drop a.toNat = [] /\ ((s.getD a.toNat 0).toNat + 9223372036854775808 : Int) % 18446744073709551616 - 9223372036854775808 = (cb (s.drop a.toNat) 0 : Int) /\
   (a + 1 + 9223372036854775808) % 18446744073709551616 - 9223372036854775808 = a + 1 /\
   s.drop ((a + 1 + 9223372036854775808) % 18446744073709551616 - 9223372036854775808).toNat = (s.drop a.toNat).drop 1 := by
 obtain ⟨o1, o2, o3, o4, o5, o6⟩ := h
 have e : (a + 1 + 9223372036854775808) % 18446744073709551616 - 9223372036854775808 = a + 1 := by omega
 have c : cb (s.drop a.toNat) 0 = (s.getD a.toNat 0).toNat := by
   unfold cb
   rw [List.getD_eq_getElem?_getD, List.getD_eq_getElem?_getD, List.getElem?_drop]; rfl
 have hb := (s.getD a.toNat 0).toNat_lt
 refine ⟨fun h => ?_, by rw [c]; omega, e, ?_⟩
 · have := congrArg List.length h
   rw [List.length_drop, List.length_nil] at this
   omega
 · rw [e, List.drop_drop]
   congr 1
   omega
theorem zhl {s : List UInt8} {a : Int} (h0 : 0 <= a) (hl : s.length <= 900000) (hn : ¬ s.drop a.toNat = []) (h : zdj ((s.drop a.toNat).drop 1) = 0) :
   a + 1 + ze2 ((s.drop a.toNat).drop 1) = (s.length : Int) - ((za3 (s.drop a.toNat)).length : Int) /\ s.drop (a + 1 + ze2 ((s.drop a.toNat).drop 1)).toNat = za3 (s.drop a.toNat) /\
   rlK ((s.drop a.toNat).drop 1) = ze2 ((s.drop a.toNat).drop 1) /\ rlN ((s.drop a.toNat).drop 1) = zb2 ((s.drop a.toNat).drop 1) /\ 0 <= zb2 ((s.drop a.toNat).drop 1) /\ zb2 ((s.drop a.toNat).drop 1) < 18446744073709551616 /\
   (za3 (s.drop a.toNat)).length + 2 <= (s.drop a.toNat).length /\ a + 1 + ze2 ((s.drop a.toNat).drop 1) <= (s.length : Int) /\ 0 <= ze2 ((s.drop a.toNat).drop 1) := by
 have y := zgk h
 have rl := zgc hn h
 have hk := ycw ((s.drop a.toNat).drop 1)
 have hd : (za3 (s.drop a.toNat)) = s.drop (a + 1 + ze2 ((s.drop a.toNat).drop 1)).toNat := by
   unfold za3
   rw [List.drop_drop, List.drop_drop]
   congr 1
   omega
 have l1 : (s.drop a.toNat).length = s.length - a.toNat := List.length_drop
 have l2 : 0 < (s.drop a.toNat).length := List.length_pos_iff.2 hn
 have l3 : (s.drop (a + 1 + ze2 ((s.drop a.toNat).drop 1)).toNat).length = s.length - (a + 1 + ze2 ((s.drop a.toNat).drop 1)).toNat := List.length_drop
 rw [<- hd] at l3
 refine ⟨by omega, hd.symm, if_pos h, if_pos h, y.2.2.1, y.2.2.2, rl.1, by omega, by omega⟩
structure RX where
 i : Nat
 l : List CV
 r : List UInt8
noncomputable def ygx (s : List UInt8) (a d : Int) (n : Int) (x : RX) : Prop :=
 x.l.length = x.i /\ (x.i : Int) <= n /\ 0 <= n /\ n < 18446744073709551616 /\ x.r.length + x.i + 2 <= (s.drop a.toNat).length /\ x.r <:+ s /\ zoo s a d = zek d.toNat (n - x.i) x.l x.r
def yb0 (s : List UInt8) (x : RX) : Int := (s.length : Int) - (x.r.length : Int)
noncomputable def rxA (L : zaa) (s : List UInt8) (a d : Int) : Nat -> St -> Option Ann := fun id st => match id with
 | 0 => zsi st 10 fun n => some ⟨RX, fun x => [(13, .int .u64 (L za8 (L RX.i x))), (1, .int .i64 (L2 L yb0 s x)), (9, .ref 9 0)],
     fun x => [(9, .box 73 [.int .i64 3, .int .u64 0, .str [], .sl 900 4 0 (L RX.i x)]), (900, .row 73 4 (L RX.i x) (fun q j => cv1 L (L2 L zae (L RX.l x) q) j))], [0, 2, 6, 10], [6],
     fun x => L2 L (L3 L ygx s a d) n x, fun x => L (fun x : RX => x.r.length) x⟩
 | _ => none
theorem zss {N : Nat} {s : List UInt8} {a d n : Int} {x : RX} (hp : zop (N + 1) s a d) (hd : ¬ d = 6) (hx : ygx s a d n x) (hi : (x.i : Int) < n) :
   zop N s (yb0 s x) ((d + 1 + 9223372036854775808) % 18446744073709551616 - 9223372036854775808) /\
   zoo s (yb0 s x) ((d + 1 + 9223372036854775808) % 18446744073709551616 - 9223372036854775808) = zc3 (d.toNat + 1) x.r /\
   (¬ (zc3 (d.toNat + 1) x.r).e = 0 -> zc3 d.toNat (s.drop a.toNat) = zbu (zc3 (d.toNat + 1) x.r).e) /\
   ((zc3 (d.toNat + 1) x.r).e = 0 -> ygx s a d n ⟨x.i + 1, x.l ++ [(zc3 (d.toNat + 1) x.r).v], (zc3 (d.toNat + 1) x.r).r⟩ /\ (zc3 (d.toNat + 1) x.r).r.length < x.r.length /\
     zku s (yb0 s x) ((d + 1 + 9223372036854775808) % 18446744073709551616 - 9223372036854775808) = (zc3 (d.toNat + 1) x.r).v /\
     zn0 s (yb0 s x) ((d + 1 + 9223372036854775808) % 18446744073709551616 - 9223372036854775808) = (s.length : Int) - ((zc3 (d.toNat + 1) x.r).r.length : Int)) := by
 obtain ⟨o1, o2, o3, o4, o5, o6⟩ := hp
 obtain ⟨i1, i2, i3, i4, i5, i6, i7⟩ := hx
 have hl : (s.drop a.toNat).length = s.length - a.toNat := List.length_drop
 have hs := i6.length_le
 have e : (d + 1 + 9223372036854775808) % 18446744073709551616 - 9223372036854775808 = d + 1 := by omega
 have hR : zoo s (yb0 s x) (d + 1) = zc3 (d.toNat + 1) x.r := by
   unfold zoo yb0
   rw [show (d + 1).toNat = d.toNat + 1 by omega, show ((s.length : Int) - (x.r.length : Int)).toNat = s.length - x.r.length by omega, <- List.suffix_iff_eq_drop.1 i6]
 have hm : ¬ n - (x.i : Int) <= 0 := by omega
 rw [e]
 refine ⟨⟨by unfold yb0; omega, by unfold yb0; omega, by unfold yb0; omega, by omega, by omega, o6⟩, hR, fun h => ?_, fun h => ⟨⟨?_, ?_, i3, i4, ?_, ?_, ?_⟩, (zh1 x.r).1 _ h, ?_, ?_⟩⟩
 · exact i7.trans (yh3 hm h)
 · show (x.l ++ [_]).length = x.i + 1
   rw [List.length_append, i1]; rfl
 · show ((x.i + 1 : Nat) : Int) <= n
   omega
 · show (zc3 (d.toNat + 1) x.r).r.length + (x.i + 1) + 2 <= _
   have := (zh1 x.r).1 _ h
   omega
 · exact ((ymh x.r).1 _ h).trans i6
 · show zoo s a d = zek d.toNat (n - ((x.i + 1 : Nat) : Int)) _ _
   rw [i7, yre hm h, show n - ((x.i + 1 : Nat) : Int) = n - (x.i : Int) - 1 by omega]
 · rw [zku, hR, if_pos h]
 · rw [zn0, hR, if_pos h]
theorem yjh {l : List CV} {v : CV} {i q j : Nat} (hi : l.length = i) (hq : q < i + 1) (hj : j < 4) :
   zhv std (zbo q i) (cv1 std (zae l q) j) (zby .dead [.int .i64 v.kd, .int .u64 v.nn, .str v.tx, .lst 4 (zfa v) (zgq v)] ((q - i) * 4 + j)) = cv1 std (zae (l ++ [v]) q) j := by
 subst hi
 by_cases h : q < l.length
 · rw [zy9 h, zms h, show q - l.length = 0 by omega, Nat.zero_mul, Nat.zero_add]
   match j, hj with
   | 0, _ => rfl
   | 1, _ => rfl
   | 2, _ => rfl
   | 3, _ => rfl
 · have : q = l.length := by omega
   subst this
   rw [zy8, zq1 (by omega), show l.length - l.length = 0 by omega, Nat.zero_mul, Nat.zero_add]
   match j, hj with
   | 0, _ => rfl
   | 1, _ => rfl
   | 2, _ => rfl
   | 3, _ => rfl
theorem yr6 {s : List UInt8} {a d n : Int} {x : RX} (hx : ygx s a d n x) (hi : n <= (x.i : Int)) :
   zb9 (cvA std (zku s a d)) (.agg [.int .i64 3, .int .u64 0, .str [], .lst 4 x.i fun i => cv1 std (zae x.l i)]) /\ yb0 s x = zn0 s a d /\ 0 = zmz s a d := by
 obtain ⟨i1, i2, i3, i4, i5, i6, i7⟩ := hx
 have e1 : zoo s a d = ⟨.mk 3 0 [] x.l, x.r, 0⟩ := by rw [i7, yh4 (by omega)]
 have e2 : (zoo s a d).e = 0 := by rw [e1]
 refine ⟨?_, by rw [zn0, if_pos e2, e1]; rfl, by rw [zmz, e1]⟩
 rw [zku, if_pos e2, e1]
 show zb9 (.agg [.int .i64 3, .int .u64 0, .str [], .lst 4 x.l.length (zf1 x.l)]) _
 simp only [zc2, zch, zeo, zbh, true_and, and_true]
 exact ⟨i1.symm, fun q j hq hj => by rw [zb4 _ _ _ hq]; exact zfo _ j hj⟩
theorem yh2 : ∀ N, zcs Tryz.prog (yh1 N std) := by
 intro N
 induction N with
 | zero =>
   intro xs p r h hp
   dsimp only [yh1] at h |-
   split at h <;> cases h
   try simp only [L2, L3, std] at hp |-
   rename_i s a d
   obtain ⟨h1, h2, h3, _⟩ : zop 0 s a d := hp
   omega
 | succ N ih =>
   intro xs p r h hp
   dsimp only [yh1] at h |-
   split at h <;> cases h
   try simp only [L2, L3, std] at hp |-
   rename_i s a d
   refine zab (T := tt) (S := fun L => zbi [zsu L, yh1 N L]) (lo := fun L => rxA L s a d) (lb := noA) 5 (fn := Tryz.f32) rfl rfl (by kernel_rfl) (by kernel_rfl) rfl zah (za9 ⟨zxz, ih, trivial⟩) (by kernel_rfl) ?_
   have hp' : zop (N + 1) s a d := hp
   intro L P' Q' hL hP hQ
   (cbv; try simp only [syT, true_and, and_true])
   refine ⟨fun h1 => ?_, fun h1 => ⟨?_, fun h2 => ?_, fun h2 => ⟨fun h3 => ?_, fun h3 => ⟨?_, ?_, fun h4 => ?_, fun h4 => ⟨fun h5 => ?_, fun h5 => ⟨fun h6 => ⟨fun h7 => ?_, fun h7 => ⟨?_, ?_⟩⟩, fun h6 => ⟨fun h7 => ?_, fun h7 => ?_⟩⟩⟩⟩⟩⟩⟩
   · (subst hL; subst hQ; simp only [L2, L3, std] at *; try simp only [syS, reduceCtorEq, Int.reduceToNat, Int.reduceAdd, Int.reduceSub] at *)
     obtain ⟨o1, o2, o3, o4, o5, o6⟩ := hp'
     exact zi4 (by decide) (yue (List.drop_eq_nil_of_le (by omega)))
   · (subst hL; subst hQ; simp only [L2, L3, std] at *; try simp only [syS, reduceCtorEq, Int.reduceToNat, Int.reduceAdd, Int.reduceSub] at *)
     obtain ⟨o1, o2, o3, o4, o5, o6⟩ := hp'
     omega
   · (subst hL; subst hQ; simp only [L2, L3, std] at *; try simp only [syS, reduceCtorEq, Int.reduceToNat, Int.reduceAdd, Int.reduceSub] at *)
     obtain ⟨f1, f2, f3, f4⟩ := zio hp' h1
     rw [f2] at h2
     exact zi4 (by decide) (yr7 f1 (by omega))
   · (subst hL; subst hQ; simp only [L2, L3, std] at *; try simp only [syS, reduceCtorEq, Int.reduceToNat, Int.reduceAdd, Int.reduceSub] at *)
     obtain ⟨f1, f2, f3, f4⟩ := zio hp' h1
     rw [f2] at h3
     exact zi4 (by decide) (yr7 f1 (by omega))
   · (subst hL; subst hQ; simp only [L2, L3, std] at *; try simp only [syS, reduceCtorEq, Int.reduceToNat, Int.reduceAdd, Int.reduceSub] at *)
     obtain ⟨o1, o2, o3, o4, o5, o6⟩ := hp'
     omega
   · (subst hL; subst hQ; simp only [L2, L3, std] at *; try simp only [syS, reduceCtorEq, Int.reduceToNat, Int.reduceAdd, Int.reduceSub] at *)
     obtain ⟨o1, o2, o3, o4, o5, o6⟩ := hp'
     unfold upto
     rw [List.length_drop]
     omega
   · (subst hL; subst hQ; simp only [L2, L3, std] at *; try simp only [syS, reduceCtorEq, Int.reduceToNat, Int.reduceAdd, Int.reduceSub] at *)
     obtain ⟨f1, f2, f3, f4⟩ := zio hp' h1
     rw [f2] at h2 h3
     rw [f4] at h4 |-
     have := yud (d := d.toNat) f1 (by omega) (fun h => h4 (zjp.2 h))
     exact zi4 h4 this.1
   · (subst hL; subst hQ; simp only [L2, L3, std] at *; try simp only [syS, reduceCtorEq, Int.reduceToNat, Int.reduceAdd, Int.reduceSub] at *)
     obtain ⟨f1, f2, f3, f4⟩ := zio hp' h1
     obtain ⟨o1, o2, o3, o4, o5, o6⟩ := hp'
     rw [f2] at h2 h3 h5 |-
     rw [f4] at h4 |-
     rw [f3]
     have h4' := zjp.1 h4
     have hv := yuc (d := d.toNat) f1 (by omega) h4' (by omega)
     have g := zhl o1 o6 f1 h4'
     obtain ⟨g1, g2, g3, g4, g5, g6, g7, g8, g9⟩ := g
     obtain ⟨y1, y2, y3⟩ := yb5 hv
     rw [g3, g4, h5]
     exact ⟨y1, by rw [<- y2]; omega, y3⟩
   · (subst hL; subst hQ; simp only [L2, L3, std] at *; try simp only [syS, reduceCtorEq, Int.reduceToNat, Int.reduceAdd, Int.reduceSub] at *)
     obtain ⟨f1, f2, f3, f4⟩ := zio hp' h1
     obtain ⟨o1, o2, o3, o4, o5, o6⟩ := hp'
     have h4' : zdj ((s.drop a.toNat).drop 1) = 0 := zjp.1 (by rw [<- f4]; exact h4)
     obtain ⟨g1, g2, g3, g4, g5, g6, g7, g8, g9⟩ := zhl o1 o6 f1 h4'
     rw [f2] at h2 h3 h5 h6
     try rw [f4, f3] at h7
     try rw [g3, g4] at h7
     try rw [f4, f3]
     try rw [g3, g4]
     have w1 : (a + 1 + ze2 ((s.drop a.toNat).drop 1) + 9223372036854775808) % 18446744073709551616 - 9223372036854775808 = a + 1 + ze2 ((s.drop a.toNat).drop 1) := by omega
     try rw [w1] at h7
     have w2 : zb2 ((s.drop a.toNat).drop 1) <= ((za3 (s.drop a.toNat)).length : Int) -> (zb2 ((s.drop a.toNat).drop 1) + 9223372036854775808) % 18446744073709551616 - 9223372036854775808 = zb2 ((s.drop a.toNat).drop 1) := by omega
     exact zi4 (by decide) (yub f1 (by omega) h4' (by omega) (by omega) (by omega))
   · (subst hL; subst hQ; simp only [L2, L3, std] at *; try simp only [syS, reduceCtorEq, Int.reduceToNat, Int.reduceAdd, Int.reduceSub] at *)
     obtain ⟨f1, f2, f3, f4⟩ := zio hp' h1
     obtain ⟨o1, o2, o3, o4, o5, o6⟩ := hp'
     have h4' : zdj ((s.drop a.toNat).drop 1) = 0 := zjp.1 (by rw [<- f4]; exact h4)
     obtain ⟨g1, g2, g3, g4, g5, g6, g7, g8, g9⟩ := zhl o1 o6 f1 h4'
     rw [f2] at h2 h3 h5 h6
     try rw [f4, f3] at h7
     try rw [g3, g4] at h7
     try rw [f4, f3]
     try rw [g3, g4]
     have w1 : (a + 1 + ze2 ((s.drop a.toNat).drop 1) + 9223372036854775808) % 18446744073709551616 - 9223372036854775808 = a + 1 + ze2 ((s.drop a.toNat).drop 1) := by omega
     try rw [w1] at h7
     have w2 : zb2 ((s.drop a.toNat).drop 1) <= ((za3 (s.drop a.toNat)).length : Int) -> (zb2 ((s.drop a.toNat).drop 1) + 9223372036854775808) % 18446744073709551616 - 9223372036854775808 = zb2 ((s.drop a.toNat).drop 1) := by omega
     have w3 : zb2 ((s.drop a.toNat).drop 1) <= ((za3 (s.drop a.toNat)).length : Int) := by omega
     rw [w1, w2 w3]
     omega
   · (subst hL; subst hQ; simp only [L2, L3, std] at *; try simp only [syS, reduceCtorEq, Int.reduceToNat, Int.reduceAdd, Int.reduceSub] at *)
     obtain ⟨f1, f2, f3, f4⟩ := zio hp' h1
     obtain ⟨o1, o2, o3, o4, o5, o6⟩ := hp'
     have h4' : zdj ((s.drop a.toNat).drop 1) = 0 := zjp.1 (by rw [<- f4]; exact h4)
     obtain ⟨g1, g2, g3, g4, g5, g6, g7, g8, g9⟩ := zhl o1 o6 f1 h4'
     rw [f2] at h2 h3 h5 h6
     try rw [f4, f3] at h7
     try rw [g3, g4] at h7
     try rw [f4, f3]
     try rw [g3, g4]
     have w1 : (a + 1 + ze2 ((s.drop a.toNat).drop 1) + 9223372036854775808) % 18446744073709551616 - 9223372036854775808 = a + 1 + ze2 ((s.drop a.toNat).drop 1) := by omega
     try rw [w1] at h7
     have w2 : zb2 ((s.drop a.toNat).drop 1) <= ((za3 (s.drop a.toNat)).length : Int) -> (zb2 ((s.drop a.toNat).drop 1) + 9223372036854775808) % 18446744073709551616 - 9223372036854775808 = zb2 ((s.drop a.toNat).drop 1) := by omega
     have w3 : zb2 ((s.drop a.toNat).drop 1) <= ((za3 (s.drop a.toNat)).length : Int) := by omega
     rw [w1, w2 w3]
     have hv := yua (d := d.toNat) f1 (by omega) h4' (by omega) (by omega) (by omega)
     obtain ⟨y1, y2, y3⟩ := yb5 hv
     have w4 : (a + 1 + ze2 ((s.drop a.toNat).drop 1) + zb2 ((s.drop a.toNat).drop 1) + 9223372036854775808) % 18446744073709551616 - 9223372036854775808 = a + 1 + ze2 ((s.drop a.toNat).drop 1) + zb2 ((s.drop a.toNat).drop 1) := by omega
     rw [w4, f2, h6, List.drop_take, g2, show (a + 1 + ze2 ((s.drop a.toNat).drop 1) + zb2 ((s.drop a.toNat).drop 1)).toNat - (a + 1 + ze2 ((s.drop a.toNat).drop 1)).toNat = (zb2 ((s.drop a.toNat).drop 1)).toNat by omega]
     refine ⟨y1, ?_, y3⟩
     rw [<- y2, List.length_drop]
     omega
   · (subst hL; subst hQ; simp only [L2, L3, std] at *; try simp only [syS, reduceCtorEq, Int.reduceToNat, Int.reduceAdd, Int.reduceSub] at *)
     obtain ⟨f1, f2, f3, f4⟩ := zio hp' h1
     obtain ⟨o1, o2, o3, o4, o5, o6⟩ := hp'
     have h4' : zdj ((s.drop a.toNat).drop 1) = 0 := zjp.1 (by rw [<- f4]; exact h4)
     obtain ⟨g1, g2, g3, g4, g5, g6, g7, g8, g9⟩ := zhl o1 o6 f1 h4'
     rw [f2] at h2 h3 h5 h6
     try rw [f4, f3] at h7
     try rw [g3, g4] at h7
     try rw [f4, f3]
     try rw [g3, g4]
     have w1 : (a + 1 + ze2 ((s.drop a.toNat).drop 1) + 9223372036854775808) % 18446744073709551616 - 9223372036854775808 = a + 1 + ze2 ((s.drop a.toNat).drop 1) := by omega
     try rw [w1] at h7
     have w2 : zb2 ((s.drop a.toNat).drop 1) <= ((za3 (s.drop a.toNat)).length : Int) -> (zb2 ((s.drop a.toNat).drop 1) + 9223372036854775808) % 18446744073709551616 - 9223372036854775808 = zb2 ((s.drop a.toNat).drop 1) := by omega
     exact zi4 (by decide) (yu9 f1 (by omega) h4' (by omega) (by omega) (by omega))
   · obtain ⟨x0, hx0⟩ : ∃ x : RX, x = ⟨0, [], za3 (s.drop a.toNat)⟩ := ⟨_, rfl⟩
     refine ⟨⟨x0, ?_⟩, fun x hx => ?_⟩
     · (cbv; try simp only [syT, true_and, and_true])
       (subst hL; subst hQ; simp only [L2, L3, std] at *; try simp only [syS, reduceCtorEq, Int.reduceToNat, Int.reduceAdd, Int.reduceSub] at *)
       obtain ⟨f1, f2, f3, f4⟩ := zio hp' h1
       obtain ⟨o1, o2, o3, o4, o5, o6⟩ := hp'
       have h4' : zdj ((s.drop a.toNat).drop 1) = 0 := zjp.1 (by rw [<- f4]; exact h4)
       obtain ⟨g1, g2, g3, g4, g5, g6, g7, g8, g9⟩ := zhl o1 o6 f1 h4'
       rw [f2] at h2 h3 h5 h6
       try rw [f4, f3] at h7
       try rw [g3, g4] at h7
       try rw [f4, f3]
       try rw [g3, g4]
       have w1 : (a + 1 + ze2 ((s.drop a.toNat).drop 1) + 9223372036854775808) % 18446744073709551616 - 9223372036854775808 = a + 1 + ze2 ((s.drop a.toNat).drop 1) := by omega
       try rw [w1] at h7
       have w2 : zb2 ((s.drop a.toNat).drop 1) <= ((za3 (s.drop a.toNat)).length : Int) -> (zb2 ((s.drop a.toNat).drop 1) + 9223372036854775808) % 18446744073709551616 - 9223372036854775808 = zb2 ((s.drop a.toNat).drop 1) := by omega
       subst hx0
       have hv := yu8 (d := d.toNat) f1 (by omega) h4' (by omega) (by omega) (by omega)
       refine ⟨rfl, rfl, ?_, ?_, rfl, ?_⟩
       · rw [f2]; omega
       · rw [w1]; exact g1
       · refine ⟨rfl, g5, g5, g6, by show (za3 _).length + 0 + 2 <= _; omega, ?_, ?_⟩
         · show za3 (s.drop a.toNat) <:+ s
           rw [<- g2]; exact List.drop_suffix _ _
         · show zoo s a d = zek d.toNat (zb2 ((s.drop a.toNat).drop 1) - ((0 : Nat) : Int)) [] (za3 (s.drop a.toNat))
           rw [show zb2 ((s.drop a.toNat).drop 1) - ((0 : Nat) : Int) = zb2 ((s.drop a.toNat).drop 1) by omega]
           exact hv
     · cbv at hx
       obtain ⟨nx, hnx⟩ : ∃ nx : RX, nx = ⟨x.i + 1, x.l ++ [(zc3 (d.toNat + 1) x.r).v], (zc3 (d.toNat + 1) x.r).r⟩ := ⟨_, rfl⟩
       (cbv; try simp only [syT, true_and, and_true])
       refine ⟨fun h8 => ⟨?_, fun h9 => ?_, fun h9 => ⟨?_, ⟨nx, ?_⟩⟩⟩, fun h8 => ?_⟩
       · (subst hL; subst hQ; simp only [L2, L3, std] at *; try simp only [syS, reduceCtorEq, Int.reduceToNat, Int.reduceAdd, Int.reduceSub] at *)
         exact (zss hp' h7 hx h8).1
       · (subst hL; subst hQ; simp only [L2, L3, std] at *; try simp only [syS, reduceCtorEq, Int.reduceToNat, Int.reduceAdd, Int.reduceSub] at *)
         obtain ⟨t1, t2, t3, t4⟩ := zss hp' h7 hx h8
         rw [zmz, t2] at h9 |-
         exact zi4 h9 (t3 h9)
       · (subst hL; subst hQ; simp only [L2, L3, std] at *; try simp only [syS, reduceCtorEq, Int.reduceToNat, Int.reduceAdd, Int.reduceSub] at *)
         obtain ⟨o1, o2, o3, o4, o5, o6⟩ := hp'
         obtain ⟨i1, i2, i3, i4, i5, i6, i7⟩ := hx
         have hl : (s.drop a.toNat).length = s.length - a.toNat := List.length_drop
         omega
       · (cbv; try simp only [syT, true_and, and_true])
         (subst hL; subst hQ; simp only [L2, L3, std] at *; try simp only [syS, reduceCtorEq, Int.reduceToNat, Int.reduceAdd, Int.reduceSub] at *)
         obtain ⟨t1, t2, t3, t4⟩ := zss hp' h7 hx h8
         rw [zmz, t2] at h9
         obtain ⟨t5, t6, t7, t8⟩ := t4 h9
         rw [t7, t8]
         subst hnx
         obtain ⟨i1, i2, i3, i4, i5, i6, i7⟩ := hx
         obtain ⟨o1, o2, o3, o4, o5, o6⟩ := hp'
         have hl : (s.drop a.toNat).length = s.length - a.toNat := List.length_drop
         refine ⟨⟨rfl, fun q j hq hj => yjh i1 hq hj⟩, rfl, rfl, ?_, t5, t6⟩
         show ((x.i : Int) + 1) % 18446744073709551616 = ((x.i + 1 : Nat) : Int)
         omega
       · (subst hL; subst hQ; simp only [L2, L3, std] at *; try simp only [syS, reduceCtorEq, Int.reduceToNat, Int.reduceAdd, Int.reduceSub] at *)
         exact yr6 hx h8
theorem zu5 {P : Program} {f : FuncId} {args : Array Value} {w : World} {Q Q' : Ending -> World -> Prop} (h : zdv P f args w Q) (hq : ∀ e w, Q e w -> Q' e w) : zdv P f args w Q' := by
 unfold zdv at *
 split at h
 · exact Calls.mono h hq
 · exact hq _ _ h
 · exact h.elim
theorem yl9 {P : Program} {f : FuncId} {xs : List AV} {r r' : AV} (e : ∀ (h : Array Obj) D v, R h D zaz r v -> R h D zaz r' v) (h : zaf P f xs r) : zaf P f xs r' := fun D w vs hD hx hg =>
 zu5 (h D w vs hD hx hg) fun _ _ ⟨v, D', h1, h2, h3, h4, h5⟩ => ⟨v, D', h1, h2, h3, h4, e _ _ _ h5⟩
theorem ywo {h : Array Obj} {D : Nat -> Prop} {μ : Mu} {c : CV} {v : Value} (r : R h D μ (cvA std c) v) : R h D μ (cvB std c) v := by
 obtain ⟨us, rfl, o1, s1, hr⟩ := R.inv_agg (cs := [.int .i64 c.kd, .int .u64 c.nn, .str c.tx, .lst 4 (zfa c) (zgq c)]) r
 refine R.agg (cs := [.int .i64 c.kd, .int .u64 c.nn, .str c.tx, .lst 4 (zfa c) (fun i j => cv1 std (zae c.ls i) j)]) _ (by rw [<- s1]; rfl) o1 fun i y v hy hv => ?_
 match i, hy with
 | 0, hy => cases hy; exact hr 0 _ v rfl hv
 | 1, hy => cases hy; exact hr 1 _ v rfl hv
 | 2, hy => cases hy; exact hr 2 _ v rfl hv
 | 3, hy =>
   cases hy
   exact zp5 (hr 3 _ v rfl hv) fun i j hi hj => by rw [zfo _ _ hj]; exact zb4 _ _ _ hi
 | i + 4, hy => simp at hy
theorem yk3 {h : Array Obj} {D : Nat -> Prop} {μ : Mu} {x y a b : AV} {v : Value} (e : ∀ v, R h D μ x v -> R h D μ y v) (r : R h D μ (.tup [x, a, b]) v) : R h D μ (.tup [y, a, b]) v := by
 obtain ⟨us, rfl, hr⟩ := r.inv_tup
 have h2 := yug e hr
 exact .tup _ _ h2.1 h2.2
noncomputable def ykd (L : zaa) : zcl := (32, fun xs => match xs with
 | [.str s, .int .i64 a, .int .i64 d] => some (L (L3 L (zop 1000000) s a) d, .tup [cvB L (L3 L zku s a d), .int .i64 (L3 L zn0 s a d), .int .i64 (L3 L zmz s a d)])
 | _ => none)
theorem yb8 : zcs Tryz.prog (ykd std) := by
 intro xs p r h hp
 dsimp only [ykd] at h |-
 split at h <;> cases h
 try simp only [L2, L3, std] at hp |-
 rename_i s a d
 exact yl9 (fun h D v r => yk3 (fun v => ywo) r) (yh2 1000000 _ _ _ rfl hp)
theorem zw7 {s : List UInt8} : ∀ (f i n N K : Nat), f + i = 10 -> lng s f i n = (N, K, 0) -> i <= s.length -> ∃ m : Nat, N = n + m * 2 ^ (7 * i) /\ K = i + (zdc m).length /\ s.drop i = zdc m ++ s.drop K /\ (1 <= i -> 0 < m)
 | 0, i, n, N, K, hf, h, hi => by
   rw [lng] at h
   simp at h
 | f + 1, i, n, N, K, hf, h, hi => by
   rw [lng] at h
   split at h
   · simp at h
   · rename_i h1
     split at h
     · simp at h
     · rename_i h2
       have hlt : i < s.length := by omega
       have hd : s.drop i = s[i] :: s.drop (i + 1) := List.drop_eq_getElem_cons hlt
       have hc : cb s i = s[i].toNat := by
         unfold cb
         rw [List.getD_eq_getElem?_getD, List.getElem?_eq_getElem hlt]; rfl
       have hpow : 2 ^ (7 * (i + 1)) = 128 * 2 ^ (7 * i) := by rw [show 7 * (i + 1) = 7 + 7 * i by omega, Nat.pow_add]
       split at h
       · rename_i h3
         obtain ⟨m, e1, e2, e3, e4⟩ := zw7 f (i + 1) _ N K (by omega) h hlt
         have hm : 0 < m := e4 (by omega)
         have hmd : (cb s i % 128 + 128 * m) / 128 = m := by omega
         have hmm : (cb s i % 128 + 128 * m) % 128 = cb s i % 128 := by omega
         refine ⟨cb s i % 128 + 128 * m, ?_, ?_, ?_, fun _ => by omega⟩
         · rw [e1, hpow, Nat.add_mul, Nat.mul_assoc, Nat.mul_left_comm m 128]
           omega
         · rw [zdb (by omega), hmd, List.length_cons, e2]
           omega
         · rw [hd, e3, zdb (n := cb s i % 128 + 128 * m) (by omega), hmd, hmm, List.cons_append]
           congr 1
           have : cb s i < 256 := zz0 s i
           have e5 : cb s i % 128 + 128 = cb s i := by omega
           rw [e5, hc]
           exact UInt8.ofNat_toNat.symm
       · rename_i h3
         split at h
         · rename_i h4
           have h5 : N = n + cb s i % 128 * 2 ^ (7 * i) /\ K = i + 1 := by
             simp only [Prod.mk.injEq] at h
             exact ⟨h.1.symm, h.2.1.symm⟩
           refine ⟨cb s i, ?_, ?_, ?_, ?_⟩
           · rw [h5.1, Nat.mod_eq_of_lt (by omega)]
           · rw [zbc (by omega), h5.2]; rfl
           · rw [zbc (by omega), hd, h5.2, hc, UInt8.ofNat_toNat]; rfl
           · intro h6
             rcases h4 with h4 | h4 <;> omega
         · simp at h
theorem yi4 {s : List UInt8} (h : zdj s = 0) : s = zar (zb2 s) ++ s.drop (ze2 s).toNat := by
 unfold zdj at h
 unfold zb2 ze2
 generalize hx : lng s 10 0 0 = x at h |-
 obtain ⟨N, K, E⟩ := x
 have h : (E : Int) = 0 := h
 obtain rfl : E = 0 := by omega
 obtain ⟨m, e1, e2, e3, _⟩ := zw7 10 0 0 N K rfl hx (Nat.zero_le _)
 simp only [Nat.mul_zero, Nat.pow_zero, Nat.mul_one, Nat.zero_add, List.drop_zero] at e1 e3
 subst e1
 show s = zdc ((N : Int)).toNat ++ s.drop ((K : Int)).toNat
 rw [Int.toNat_natCast, Int.toNat_natCast]
 exact e3
def zfc : List Lv -> List UInt8
 | [] => []
 | a :: st => zfc st ++ (zf3 3 ++ (zar (a.left + a.l.length) ++ zao a.l))
theorem zja {M : Nat} {val : List Lv -> List UInt8 -> NR} {w : CV} {r : List UInt8} (hv : ∀ st s, s.length < M -> val st s = ⟨w, r, 0⟩ -> zfc st ++ s = zbd w ++ r) : ∀ {st : List Lv} {v : CV} {s : List UInt8}, s.length < M ->
   zbn val st v s = ⟨w, r, 0⟩ -> zfc st ++ (zbd v ++ s) = zbd w ++ r
 | [], v, s, hs, h => by
   rw [zbn] at h
   cases h
   rfl
 | a :: st, v, s, hs, h => by
   rw [zbn] at h
   have hl : zao (a.l ++ [v]) = zao a.l ++ zbd v := by rw [zhi, zao, zao, List.append_nil]
   split at h
   · rename_i h0
     have := zja hv hs h
     rw [zfc, <- this, zal, if_neg (by decide), if_neg (by decide), hl]
     have e : ((a.l ++ [v]).length : Int) = a.left + a.l.length := by simp; omega
     rw [e]
     simp only [List.append_assoc]
   · have := hv _ _ hs h
     rw [<- this, zfc, zfc, hl]
     have e : a.left - 1 + ((a.l ++ [v]).length : Int) = a.left + a.l.length := by simp; omega
     show _ = zfc st ++ (zf3 3 ++ (zar (a.left - 1 + ((a.l ++ [v]).length : Int)) ++ (zao a.l ++ zbd v))) ++ s
     rw [e]
     simp only [List.append_assoc]
theorem ya7 {M : Nat} {val : List Lv -> List UInt8 -> NR} {w : CV} {r : List UInt8} {a : Lv} {st : List Lv} {s : List UInt8} (hv : ∀ st s, s.length < M -> val st s = ⟨w, r, 0⟩ -> zfc st ++ s = zbd w ++ r) (hs : s.length < M)
   (h : zbz val (a :: st) s = ⟨w, r, 0⟩) : zfc (a :: st) ++ s = zbd w ++ r := by
 rw [zbz] at h
 split at h
 · rename_i h0
   have := zja hv hs h
   rw [<- this, zfc, zal, if_neg (by decide), if_neg (by decide), h0, Int.zero_add]
   simp only [List.append_assoc]
 · exact hv _ _ hs h
theorem zo4 {e : Int} {w : CV} {r : List UInt8} (he : e ≠ 0) (h : zbu e = ⟨w, r, 0⟩) : False := he (congrArg NR.e h)
theorem zui {w : CV} {r : List UInt8} : ∀ (f : Nat) (st : List Lv) (s : List UInt8), s.length < f -> zaw f st s = ⟨w, r, 0⟩ -> zfc st ++ s = zbd w ++ r
 | 0, st, s, hs, h => by omega
 | f + 1, st, s, hs, h => by
   rw [zaw] at h
   split at h
   · exact (zo4 (by decide) h).elim
   rename_i h0
   split at h
   · exact (zo4 (by decide) h).elim
   rename_i h1
   split at h
   · rename_i h2; exact (zo4 h2 h).elim
   rename_i h2
   have h2 : zdj (s.drop 1) = 0 := Classical.not_not.1 h2
   match s, h0 with
   | c :: s1, _ =>
   have ht := yi4 h2
   have hr : za3 (c :: s1) = s1.drop (ze2 s1).toNat := rfl
   have hcb : cb (c :: s1) 0 = c.toNat := rfl
   have hlen : (za3 (c :: s1)).length <= s1.length := by rw [hr, List.length_drop]; omega
   have ht : s1 = zar (zb2 s1) ++ za3 (c :: s1) := ht
   have hs1 : s1.length < f := by
     have hs : s1.length + 1 < f + 1 := hs
     omega
   have hd1 : (c :: s1).drop 1 = s1 := rfl
   rw [hd1] at h
   have ih := zui (w := w) (r := r) f
   have hbk : ∀ k : Nat, cb (c :: s1) 0 = k -> k < 256 -> zf3 (k : Int) = [c] := by
     intro k hk hk2
     unfold zf3
     rw [show ((k : Int) % 256).toNat = k by omega, <- hk, hcb, UInt8.ofNat_toNat]
   split at h
   · rename_i h3
     have := zja (M := f) ih (by omega) h
     rw [<- this, zal, if_pos rfl, show zf3 1 = [c] from hbk 1 h3 (by omega)]
     conv => lhs; rw [ht]
     simp only [List.append_assoc, List.cons_append, List.nil_append]
   · split at h
     · rename_i h3 h4
       split at h
       · exact (zo4 (by decide) h).elim
       · rename_i h5
         have := zja (M := f) ih (by rw [List.length_drop]; omega) h
         have hl5 : (((za3 (c :: s1)).take (zb2 s1).toNat).length : Int) = zb2 s1 := by
           have hn : 0 <= zb2 s1 := (zgk h2).2.2.1
           rw [List.length_take]; omega
         rw [<- this, zal, if_neg (by decide), if_pos rfl, show zf3 2 = [c] from hbk 2 h4 (by omega), hl5]
         conv => lhs; rw [ht]
         simp only [List.append_assoc, List.cons_append, List.nil_append, List.take_append_drop]
     · rename_i h3 h4
       split at h
       · exact (zo4 (by decide) h).elim
       · have h6 : cb (c :: s1) 0 = 3 := by omega
         have := ya7 (M := f) ih (by omega) h
         rw [<- this, zfc, show zf3 3 = [c] from hbk 3 h6 (by omega)]
         conv => lhs; rw [ht]
         show _ = zfc st ++ ([c] ++ (zar (zb2 s1 + ((0 : Nat) : Int)) ++ zao [])) ++ _
         rw [zao, List.append_nil, show zb2 s1 + ((0 : Nat) : Int) = zb2 s1 by omega]
         simp only [List.append_assoc, List.cons_append, List.nil_append]
theorem yiz {s : List UInt8} (h : zj6 s = 0) : zbd (zc1 s) = s := by
 unfold zj6 at h
 split at h
 · cases h
 · rename_i h1
   have hv : zc1 s = (zb6 s).v := by
     unfold zc1 zj6
     rw [if_pos]
     rw [if_neg h1]; exact h
   have hr : (zb6 s).r = [] := by
     refine Classical.byContradiction fun h2 => h1 ⟨h, h2⟩
   rw [hv]
   generalize hx : zb6 s = x at h hr |-
   obtain ⟨v, r, e⟩ := x
   have h : e = 0 := h
   have hr : r = [] := hr
   subst h; subst hr
   unfold zb6 at hx
   split at hx
   · exact (zo4 (by decide) hx).elim
   · have := zui (s.length + 1) [] s (Nat.lt_succ_self _) hx
     rw [zfc, List.nil_append, List.append_nil] at this
     exact this.symm
def zsf (s : List UInt8) : Pr := if h : s.length = 16 then ⟨s.map fun b => (b.toNat : Int), by simpa using h⟩ else prZ
def enB (v : CV) : Bool := decide (v.kd = 3) && (decide (v.ls.length = 3) && (decide ((zae v.ls 0).tx.length = 16) && (decide ((zae v.ls 1).nn <= 255) && decide ((zae v.ls 2).nn <= 1))))
def enD (v : CV) : Le := ⟨zsf (zae v.ls 0).tx, (zae v.ls 1).nn, decide ((zae v.ls 2).nn = 1)⟩
def enV (v : CV) : Le := if enB v = true then enD v else ⟨prZ, 0, false⟩
def ywm (v : CV) : Prop := wfV v
theorem zlr (s : List UInt8) : zi0 (zsf s) := by
 unfold zsf
 split
 · intro x hx
   have hx : x ∈ s.map fun b => (b.toNat : Int) := hx
   obtain ⟨b, _, rfl⟩ := List.mem_map.1 hx
   have := b.toNat_lt
   omega
 · intro x hx
   have hx : x ∈ [0, 0, 0, 0, 0, 0, 0, 0, 0, 0, 0, 0, 0, 0, 0, 0] := hx
   simp only [List.mem_cons, List.not_mem_nil, or_false, or_self] at hx
   omega
theorem ybv {s : List UInt8} (h : s.length = 16) {j : Nat} (hj : j < 16) : za0 (zsf s) j = zac s j := by
 unfold za0 zsf za7 zac
 rw [dif_pos h]
 simp [List.getD_eq_getElem?_getD, h, hj]
theorem yms {s : List UInt8} (h : s.length = 16) : zjr (zsf s) = s := by
 unfold zjr prB zsf
 rw [dif_pos h]
 simp only [List.map_map]
 conv => rhs; rw [<- List.map_id s]
 apply List.map_congr_left
 intro b _
 simp
theorem ymr {p : Pr} (h : zi0 p) : zsf (zjr p) = p := by
 apply Subtype.ext
 unfold zsf
 rw [dif_pos (zoq p)]
 show (prB p.1).map _ = p.1
 unfold prB
 rw [List.map_map]
 conv => rhs; rw [<- List.map_id p.1]
 apply List.map_congr_left
 intro x hx
 have := h x hx
 show ((UInt8.ofNat x.toNat).toNat : Int) = x
 rw [UInt8.toNat_ofNat']
 omega
theorem zrv {v : CV} : enB v = true ↔ v.kd = 3 /\ v.ls.length = 3 /\ (zae v.ls 0).tx.length = 16 /\ (zae v.ls 1).nn <= 255 /\ (zae v.ls 2).nn <= 1 := by
 unfold enB
 simp only [Bool.and_eq_true, decide_eq_true_eq]
theorem zm3 {v : CV} (h : enB v = false) : zed (.tup [leA std (enV v), .bool (enB v)]) (.tup [.agg [.int .u8 0, .int .u8 0, .int .u8 0, .int .u8 0, .int .u8 0, .int .u8 0, .int .u8 0, .int .u8 0, .int .u8 0, .int .u8 0, .int .u8 0, .int .u8 0, .int .u8 0, .int .u8 0, .int .u8 0, .int .u8 0, .int .i64 0, .bool false], .bool false]) := by
 have e : enV v = ⟨prZ, 0, false⟩ := by unfold enV; rw [h]; rfl
 rw [e, h, zea, zay, zay, zcz, zen]
 exact ⟨zws ⟨prZ, 0, false⟩ ⟨prZ, 0, false⟩ rfl, rfl, trivial⟩
theorem yib {v : CV} (h : enB v = true) (hn : 0 <= (zae v.ls 1).nn) : zed (.tup [leA std (enV v), .bool (enB v)]) (.tup [.agg [.int .u8 (zac (zae v.ls 0).tx (Nat.add 0 0)), .int .u8 (zac (zae v.ls 0).tx (Nat.add 0 1)), .int .u8 (zac (zae v.ls 0).tx (Nat.add 0 2)), .int .u8 (zac (zae v.ls 0).tx (Nat.add 0 3)), .int .u8 (zac (zae v.ls 0).tx (Nat.add 0 4)), .int .u8 (zac (zae v.ls 0).tx (Nat.add 0 5)), .int .u8 (zac (zae v.ls 0).tx (Nat.add 0 6)), .int .u8 (zac (zae v.ls 0).tx (Nat.add 0 7)), .int .u8 (zac (zae v.ls 0).tx (Nat.add 0 8)), .int .u8 (zac (zae v.ls 0).tx (Nat.add 0 9)), .int .u8 (zac (zae v.ls 0).tx (Nat.add 0 10)), .int .u8 (zac (zae v.ls 0).tx (Nat.add 0 11)), .int .u8 (zac (zae v.ls 0).tx (Nat.add 0 12)), .int .u8 (zac (zae v.ls 0).tx (Nat.add 0 13)), .int .u8 (zac (zae v.ls 0).tx (Nat.add 0 14)), .int .u8 (zac (zae v.ls 0).tx (Nat.add 0 15)), .int .i64 (IntKind.i64.wrap (zae v.ls 1).nn), .bool (ieq (zae v.ls 2).nn 1)], .bool true]) := by
 have e : enV v = enD v := by unfold enV; rw [if_pos h]
 obtain ⟨h1, h2, h3, h4, h5⟩ := zrv.1 h
 have hp : ∀ j, j < 16 -> zac (zae v.ls 0).tx (Nat.add 0 j) = za0 (zsf (zae v.ls 0).tx) j := fun j hj => by
   rw [show Nat.add 0 j = j from Nat.zero_add j, ybv h3 hj]
 have hd : IntKind.i64.wrap (zae v.ls 1).nn = (zae v.ls 1).nn := by rw [zct]; omega
 have hh : ieq (zae v.ls 2).nn 1 = decide ((zae v.ls 2).nn = 1) := rfl
 rw [e, h, zea, zay, zay, zcz, zen, hd, hh]
 iterate 16 rw [hp _ (by omega)]
 exact ⟨zws (enD v) (enD v) rfl, rfl, trivial⟩
theorem zii (e : Int) : wfV (zbu e).v := by
 show wfV (.mk 0 0 [] [])
 rw [wfV, zg6]
 exact ⟨⟨by decide, by decide⟩, by decide, trivial⟩
theorem yk1 {n : Int} {l : List CV} (hn : zbx n) (h : zg6 l) : wfV (.mk 3 n [] l) := by
 rw [wfV]
 exact ⟨hn, by simp, h⟩
theorem zso : zbx 0 := ⟨by decide, by decide⟩
theorem zoc {M : Nat} {val : List Lv -> List UInt8 -> NR} (hv : ∀ st s, (∀ a ∈ st, zg6 a.l) -> s.length <= M -> wfV (val st s).v) : ∀ (st : List Lv) (v : CV) (s : List UInt8), (∀ a ∈ st, zg6 a.l) -> s.length <= M -> wfV v -> wfV (zbn val st v s).v
 | [], v, s, _, _, h => h
 | a :: st, v, s, h0, hs, h => by
   have hl : zg6 (a.l ++ [v]) := (yg1 _ _).2 ⟨h0 a (by simp), by rw [zg6, zg6]; exact ⟨h, trivial⟩⟩
   unfold zbn
   split
   · exact zoc hv st _ s (fun b hb => h0 b (by simp [hb])) hs (yk1 zso hl)
   · refine hv _ _ (fun b hb => ?_) hs
     rcases List.mem_cons.1 hb with rfl | hb
     · exact hl
     · exact h0 b (by simp [hb])
theorem ybb (s : List UInt8) : (za3 s).length <= s.length := by
 unfold za3
 rw [List.length_drop, List.length_drop]; omega
theorem yk0 {M : Nat} (hM : M <= 8192) : ∀ (f : Nat) (st : List Lv) (s : List UInt8), (∀ a ∈ st, zg6 a.l) -> s.length <= M -> wfV (zaw f st s).v
 | 0, _, _, _, _ => zii 0
 | f + 1, st, s, h, hs => by
   have ih := yk0 hM f
   have hr := ybb s
   have hn : zg6 [] := by rw [zg6]; trivial
   unfold zaw
   split
   · exact zii _
   · split
     · exact zii _
     · split
       · exact zii _
       · rename_i _ _ hE
         have hE := zgk (Classical.not_not.1 hE)
         split
         · refine zoc ih st _ _ h (by omega) ?_
           rw [wfV]
           exact ⟨⟨hE.2.2.1, hE.2.2.2⟩, by simp, hn⟩
         · split
           · split
             · exact zii _
             · refine zoc ih st _ _ h (by rw [List.length_drop]; omega) ?_
               rw [wfV]
               exact ⟨zso, by rw [List.length_take]; omega, hn⟩
           · split
             · exact zii _
             · have h' : ∀ b ∈ (⟨zb2 (s.drop 1), []⟩ : Lv) :: st, zg6 b.l := fun b hb => by
                 rcases List.mem_cons.1 hb with rfl | hb
                 · exact hn
                 · exact h b hb
               unfold zbz
               split
               · exact zii _
               · rename_i a st' _ he
                 cases he
                 split
                 · exact zoc ih st _ _ h (by omega) (yk1 zso hn)
                 · exact ih _ _ h' (by omega)
theorem yql (s : List UInt8) : wfV (zc1 s) := by
 unfold zc1
 split
 · unfold zb6
   split
   · exact zii _
   · exact yk0 (M := 8192) (by omega) _ _ _ (fun a ha => by cases ha) (by omega)
 · exact zii 0
def yow (L : zaa) : zcl := (31, fun xs => match xs with
 | [.agg [.int .i64 k, .int .u64 n, .str s, x]] => some (L okL x /\ L ywm (mkV L k n s x), .tup [leA L (L enV (mkV L k n s x)), .bool (L enB (mkV L k n s x))])
 | _ => none)
theorem yjb : zcs Tryz.prog (yow std) := by
 intro xs p r h hp
 unfold yow at h
 simp only at h
 split at h
 rotate_left
 · cases h
 rename_i k n s x
 cases h
 obtain ⟨ho, hw⟩ := hp
 refine ytz ho ?_
 rw [show mkV std k n s x = .mk k n s (rdL x) from rfl] at hw |-
 generalize rdL x = l at hw |-
 have hw : wfV (.mk k n s l) := hw
 refine zau (T := tt) (S := noS) (lo := fun _ => noA std) (lb := noA) 5 (fn := Tryz.f31) (xs := fun L => [.agg [.int .i64 k, .int .u64 n, .str s, cvL L l]]) rfl rfl (by kernel_rfl) (by kernel_rfl) rfl zah (zdd _) (by kernel_rfl) ?_
 intro L P' Q' hL hP hQ
 have hwl : ∀ i, i < l.length -> zbx (zae l i).nn := fun i hi => by
   rw [wfV] at hw
   have := zk6 hw.2.2 hi
   generalize zae l i = v at this
   cases v
   rw [wfV] at this
   exact this.1
 (cbv; try simp only [syT, true_and, and_true])
 subst hL; subst hQ
 have hl2 : ∀ j : Nat, ieq (za8 (lenL l)) 3 = true -> j < 3 -> inR j (za8 (lenL l)) = true := fun j h hj => by
   rw [ydo, za5] at h
   rw [zfn, za5]; omega
 have neg : ¬ (k = 3 /\ l.length = 3 /\ (zae l 0).tx.length = 16 /\ (zae l 1).nn <= 255 /\ (zae l 2).nn <= 1) -> enB (.mk k n s l) = false := fun h => Bool.eq_false_iff.2 fun h2 => h (zrv.1 h2)
 refine ⟨fun h => zm3 (neg ?_), fun h1 => ⟨fun h => zm3 (neg ?_), fun h2 => ?_⟩⟩
 · have h : ine k 3 = true := h
   rw [zhx] at h
   omega
 · have h : ine (za8 l.length) 3 = true := h
   rw [zhx, za5] at h
   omega
 · have h1 : ine k 3 = false := h1
   have h2 : ine (za8 l.length) 3 = false := h2
   rw [zic] at h1
   rw [zic, za5] at h2
   have hr : ∀ j : Int, 0 <= j -> j < 3 -> inR j (za8 (lenL l)) = true := fun j h0 hj => by
     show inR j (za8 l.length) = true
     rw [zfn, za5]; omega
   refine ⟨hr 0 (by decide) (by decide), fun h => zm3 (neg ?_), fun h3 => ⟨hr 1 (by decide) (by decide), fun h => zm3 (neg ?_), fun h4 => ⟨hr 2 (by decide) (by decide), fun h => zm3 (neg ?_), fun h5 => ?_⟩⟩⟩
   · have h : ine (slen (zae l 0).tx) 16 = true := h
     rw [zhx, zdl] at h
     omega
   · have h : ilt 255 (zae l 1).nn = true := h
     rw [zc6] at h
     omega
   · have h : ilt 1 (zae l 2).nn = true := h
     rw [zc6] at h
     omega
   · have h3 : ine (slen (zae l 0).tx) 16 = false := h3
     have h4 : ilt 255 (zae l 1).nn = false := h4
     have h5 : ilt 1 (zae l 2).nn = false := h5
     rw [zic, zdl] at h3
     rw [ze4] at h4 h5
     have hn1 := (hwl 1 (by omega)).1
     refine ⟨hr 0 (by decide) (by decide), ?_, hr 1 (by decide) (by decide), hr 2 (by decide) (by decide), ?_⟩
     · show zbv 16 (zae l 0).tx.length = true
       rw [ych]; omega
     · exact yib (v := .mk k n s l) (zrv.2 ⟨h1, by show l.length = 3; omega, by show (zae l 0).tx.length = 16; omega, by show (zae l 1).nn <= 255; omega, by show (zae l 2).nn <= 1; omega⟩) hn1
def pzF (vs : List CV) : List Le := vs.foldl (fun l v => zca l (enV v)) []
def pzL (s : List UInt8) (i : Nat) : List Le := pzF ((zc1 s).ls.take i)
def pzI (s : List UInt8) (i : Nat) : Prop := i <= (zc1 s).ls.length /\ ∀ j, j < i -> enB (zae (zc1 s).ls j) = true
def pzMu (s : List UInt8) (i : Nat) : Nat := (zc1 s).ls.length - i
def yfz (s : List UInt8) : Bool := decide (zj6 s = 0) && (decide ((zc1 s).kd = 3) && (decide ((zc1 s).ls.length <= 64) && ((zc1 s).ls.all enB && decide (ldT (pzF (zc1 s).ls) = s))))
def zl1 (s : List UInt8) : List Le := if yfz s = true then pzF (zc1 s).ls else []
def ycv (s : List UInt8) : Int := if yfz s = true then 0 else 23
theorem ye8 (v : CV) (hn : wfV v) : zig (enV v) := by
 unfold enV
 split
 · rename_i h
   obtain ⟨h1, h2, h3, h4, h5⟩ := zrv.1 h
   refine ⟨zlr _, ?_, h4⟩
   obtain ⟨k, n, t, l⟩ := v
   rw [wfV] at hn
   have h2 : l.length = 3 := h2
   have := zk6 hn.2.2 (i := 1) (by omega)
   show 0 <= (zae l 1).nn
   generalize zae l 1 = w at this |-
   cases w
   rw [wfV] at this
   exact this.1.1
 · exact ⟨zlr [], Int.le_refl _, by show (0 : Int) <= 255; decide⟩
theorem zyo {l : List Le} {e : Le} (hl : zef l) (he : zig e) : (zca l e).length <= l.length + 1 := by
 have ho : (zgm e l).length <= l.length := by
   unfold zgm
   split
   · unfold zfm
     simp only [List.length_append, List.length_take, List.length_drop]; omega
   · omega
 obtain ⟨_, _, h3⟩ := zlu hl he
 unfold zca
 split
 · rw [zl2 h3]; omega
 · omega
theorem zv4 : ∀ (vs : List CV) (l : List Le), zef l -> (∀ v ∈ vs, wfV v) -> zef (vs.foldl (fun l v => zca l (enV v)) l) /\ (vs.foldl (fun l v => zca l (enV v)) l).length <= l.length + vs.length
 | [], l, h, _ => ⟨h, by simp⟩
 | v :: vs, l, h, hv => by
   have he := ye8 v (hv v (by simp))
   obtain ⟨h1, h2⟩ := zv4 vs _ (zpb h he) (fun w hw => hv w (by simp [hw]))
   have := zyo h he
   exact ⟨h1, by rw [List.foldl_cons, List.length_cons]; omega⟩
theorem zuh {l : List CV} (h : zg6 l) : ∀ v ∈ l, wfV v := by
 intro v hv
 obtain ⟨i, hi, rfl⟩ := List.getElem_of_mem hv
 have := zk6 h hi
 rw [zae, List.getD_eq_getElem?_getD, List.getElem?_eq_getElem hi] at this
 exact this
theorem yd7 : zef [] := ⟨List.Pairwise.nil, fun e he => by cases he⟩
theorem zx7 (s : List UInt8) : zg6 (zc1 s).ls := by
 have := yql s
 generalize zc1 s = v at this |-
 cases v
 rw [wfV] at this
 exact this.2.2
theorem yrl (s : List UInt8) (i : Nat) : zef (pzL s i) /\ (pzL s i).length <= i := by
 have := zv4 ((zc1 s).ls.take i) [] yd7 (fun v hv => zuh (zx7 s) v (List.mem_of_mem_take hv))
 refine ⟨this.1, ?_⟩
 have h2 := this.2
 rw [List.length_take] at h2
 show (pzL s i).length <= i
 unfold pzL pzF
 simp only [List.length_nil] at h2
 omega
theorem yha {s : List UInt8} {i : Nat} (h : i < (zc1 s).ls.length) : pzL s (i + 1) = zca (pzL s i) (enV (zae (zc1 s).ls i)) := by
 unfold pzL pzF
 rw [List.take_add_one, List.foldl_append, List.getElem?_eq_getElem h, zae, List.getD_eq_getElem?_getD, List.getElem?_eq_getElem h]
 rfl
def lpaA (L : zaa) (s : List UInt8) : Nat -> St -> Option Ann := fun id st => match id with
 | 0 => some ⟨Nat, fun i => [(32, .int .i64 (L za8 i))], fun i => [(4, .box 25 [zci L (L2 L pzL s i)])], [0, 2, 3, 4, 30, 31], [2], fun i => L2 L pzI s i, fun i => L2 L pzMu s i⟩
 | _ => none
def ynh (L : zaa) : zcl := (13, fun xs => match xs with
 | [.str s] => some (True, .tup [.agg [zci L (L zl1 s)], .int .i64 (L ycv s)])
 | _ => none)
theorem zm2 {s : List UInt8} : yfz s = true ↔ zj6 s = 0 /\ (zc1 s).kd = 3 /\ (zc1 s).ls.length <= 64 /\ (∀ v ∈ (zc1 s).ls, enB v = true) /\ ldT (pzF (zc1 s).ls) = s := by
 unfold yfz
 simp only [Bool.and_eq_true, decide_eq_true_eq, List.all_eq_true]
theorem zr1 {s : List UInt8} (h : ¬ (zj6 s = 0 /\ (zc1 s).kd = 3 /\ (zc1 s).ls.length <= 64 /\ (∀ v ∈ (zc1 s).ls, enB v = true) /\ ldT (pzF (zc1 s).ls) = s)) : zed (.tup [.agg [zci std (zl1 s)], .int .i64 (ycv s)]) (.tup [.agg [.nils], .int .i64 23]) := by
 have h := Bool.eq_false_iff.2 fun x => h (zm2.1 x)
 have e1 : zl1 s = [] := by unfold zl1; rw [h]; rfl
 have e2 : ycv s = 23 := by unfold ycv; rw [h]; rfl
 rw [e1, e2, zea, zay, zay, zcz, zg0]
 refine ⟨?_, rfl, trivial⟩
 show zb9 (.agg [.lst 18 0 _]) (.agg [.nils])
 rw [zdf, zbh]
 exact ⟨rfl, trivial⟩
theorem yng {s : List UInt8} (h : yfz s = true) {l : List Le} (hl : l = pzF (zc1 s).ls) : zed (.tup [.agg [zci std (zl1 s)], .int .i64 (ycv s)]) (.tup [.agg [zci std l], .int .i64 0]) := by
 have e1 : zl1 s = l := by unfold zl1; rw [if_pos h, hl]
 have e2 : ycv s = 0 := by unfold ycv; rw [if_pos h]
 rw [e1, e2, zea, zay, zay, zcz, zg0]
 refine ⟨?_, rfl, trivial⟩
 show zb9 (.agg [.lst 18 _ _]) (.agg [.lst 18 _ _])
 rw [zeo, zbh]
 exact ⟨⟨rfl, fun i j _ _ => rfl⟩, trivial⟩
theorem yi3 : zcs Tryz.prog (ynh std) := by
 intro xs p r h hp
 dsimp only [ynh] at h |-
 split at h <;> cases h
 try simp only [L2, L3, std] at hp |-
 rename_i s
 refine zau (T := tt) (S := fun L => zbi [zu2 L, yow L, yi1 L, yi2 L]) (lo := fun L => lpaA L s) (lb := noA) 5 (fn := Tryz.f13) (xs := fun L => [.str s]) rfl rfl (by kernel_rfl) (by kernel_rfl) rfl zah (za9 ⟨zyz, yjb, zvy, zvz, trivial⟩) (by kernel_rfl) ?_
 intro L P' Q' hL hP hQ
 obtain ⟨hE, hEo, hF, hFo, hEta, hPe, hMp, hQ0, hQo, hQ1, hQ1o, hG, hGo⟩ : zg4 L := by subst hL; exact zgx
 have hM : ∀ v : CV, mkV L (L CV.kd v) (L CV.nn v) (L CV.tx v) (.lst 4 (L zfa v) (L zgq v)) = v := by subst hL; exact zce
 (cbv; try simp only [syT, true_and, and_true])
 refine ⟨fun h1 => ?_, fun h1 => ⟨fun h2 => ?_, fun h2 => ⟨fun h3 => ?_, fun h3 => ⟨⟨0, ?_⟩, fun i hi => ?_⟩⟩⟩⟩
 · subst hL; subst hQ
   have h1 : ine (zj6 s) 0 = true := h1
   rw [zhx] at h1
   exact zr1 fun h => h1 h.1
 · subst hL; subst hQ
   have h2 : ine (zc1 s).kd 3 = true := h2
   rw [zhx] at h2
   exact zr1 fun h => h2 h.2.1
 · subst hL; subst hQ
   have h3 : ilt 64 (za8 (zc1 s).ls.length) = true := h3
   rw [zc6, za5] at h3
   exact zr1 fun h => by have := h.2.2.1; omega
 · (cbv; try simp only [syT, true_and, and_true])
   subst hL
   exact ⟨rfl, fun _ _ _ _ => trivial, rfl, Nat.zero_le _, fun j hj => by omega⟩
 · obtain ⟨hi1, hi2⟩ : pzI s i := by
     have h := hi
     rw [hL] at h
     exact h
   clear hi
   obtain ⟨i', hi'⟩ : ∃ i', i' = i + 1 := ⟨_, rfl⟩
   (cbv; try simp only [syT, true_and, and_true])
   simp only [hM]
   simp only [hPe, hE, hEo, hF, hFo, hEta, hMp, hQ1, hQ1o, hQ0, hQo, hG, hGo, true_and]
   obtain ⟨o1, o2⟩ := yrl s i
   refine ⟨fun hlt => ?_, fun hge => ?_⟩
   · have hlt2 : i < (zc1 s).ls.length := by
       have h := hlt
       rw [hL] at h
       have h : ilt (za8 i) (za8 (zc1 s).ls.length) = true := h
       rw [zc6, za5, za5] at h
       omega
     have h3 : (zc1 s).ls.length <= 64 := by
       rw [hL] at h3
       have h : ilt 64 (za8 (zc1 s).ls.length) = false := h3
       rw [ze4, za5] at h
       omega
     have hw := zk6 (zx7 s) hlt2
     have hi0 : L Int.toNat (L za8 i) = i := by rw [hL]; exact Int.toNat_natCast i
     rw [hi0]
     refine ⟨?_, ⟨?_, ?_⟩, fun h4 => ?_, fun h4 => ⟨⟨?_, ?_, ?_⟩, i', ?_⟩⟩
     · subst hL
       show inR (za8 i) (za8 (zc1 s).ls.length) = true
       rw [zfn, za5, za5]; omega
     · subst hL; exact (zkk _).2
     · subst hL; exact hw
     · subst hL; subst hQ
       have h4 : (!(enB (zae (zc1 s).ls i))) = true := h4
       refine zr1 fun h => ?_
       have := h.2.2.2.1 _ (List.getElem_mem hlt2)
       rw [zae, List.getD_eq_getElem?_getD, List.getElem?_eq_getElem hlt2] at h4
       rw [show ((some (zc1 s).ls[i]).getD _) = (zc1 s).ls[i] from rfl, this] at h4
       cases h4
     · subst hL
       show (pzL s i).length <= 1000000
       omega
     · subst hL; exact o1
     · subst hL; exact ye8 _ hw
     · (cbv; try simp only [syT, true_and, and_true])
       subst hL
       have h4 : (!(enB (zae (zc1 s).ls i))) = false := h4
       have h4 : enB (zae (zc1 s).ls i) = true := by
         cases hh : enB (zae (zc1 s).ls i) with
         | true => rfl
         | false => rw [hh] at h4; cases h4
       have e : zca (pzL s i) (enV (zae (zc1 s).ls i)) = pzL s i' := by
         rw [hi', yha hlt2]
       refine ⟨⟨congrArg zkn e, fun q r _ _ => congrArg (fun l => leC std (zak l q) r) e⟩, fun _ _ _ _ => trivial, ?_, ⟨?_, fun j hj => ?_⟩, ?_⟩
       · show zcc .i64 (za8 i) 1 = za8 i'
         unfold zcc za8
         rw [zct]; omega
       · omega
       · by_cases hj2 : j < i
         · exact hi2 j hj2
         · have : j = i := by omega
           rw [this]; exact h4
       · show (zc1 s).ls.length - i' < (zc1 s).ls.length - i
         omega
   · have hge2 : i = (zc1 s).ls.length := by
       have h := hge
       rw [hL] at h
       have h : ilt (za8 i) (za8 (zc1 s).ls.length) = false := h
       rw [ze4, za5, za5] at h
       omega
     subst hL; subst hQ
     have h1 : zj6 s = 0 := by
       have h : ine (zj6 s) 0 = false := h1
       rw [zic] at h
       exact h
     have h2 : (zc1 s).kd = 3 := by
       have h : ine (zc1 s).kd 3 = false := h2
       rw [zic] at h
       exact h
     have h3 : (zc1 s).ls.length <= 64 := by
       have h : ilt 64 (za8 (zc1 s).ls.length) = false := h3
       rw [ze4, za5] at h
       omega
     have hL2 : pzL s i = pzF (zc1 s).ls := by
       unfold pzL
       rw [hge2, List.take_length]
     have hall : ∀ v ∈ (zc1 s).ls, enB v = true := by
       intro v hv
       obtain ⟨j, hj, rfl⟩ := List.getElem_of_mem hv
       have := hi2 j (by omega)
       rw [zae, List.getD_eq_getElem?_getD, List.getElem?_eq_getElem hj] at this
       exact this
     refine ⟨⟨?_, o1.ok⟩, fun h4 => ?_, fun h4 => ?_⟩
     · show (pzL s i).length <= 64
       omega
     · have h4 : seq (ldT (pzL s i)) s = true := h4
       rw [ym1] at h4
       rw [hL2] at h4
       exact yng (zm2.2 ⟨h1, h2, h3, hall, h4⟩) hL2
     · have h4 : seq (ldT (pzL s i)) s = false := h4
       rw [yr2] at h4
       rw [hL2] at h4
       exact zr1 fun h => h4 h.2.2.2.2
theorem ysa {h : Array Obj} {D : Nat -> Prop} {μ : Mu} {sz n : Nat} {g g' : Nat -> Nat -> AV} {v : Value} (r : R h D μ (.lst sz n g) v) (e : ∀ i j u, i < n -> j < sz -> R h D zaz (g i j) u -> R h D zaz (g' i j) u) : R h D μ (.lst sz n g') v := by
 cases r with
 | lst0 _ _ a cap hn => exact .lst0 _ _ _ _ hn
 | lst _ _ _ b o cap vs hD hc hv h1 hr => exact .lst _ _ _ b o cap vs hD hc hv h1 (fun i j hi hj => e i j _ hi hj (hr i j hi hj))
def cv2 (L : zaa) (v : CV) : Nat -> AV
 | 0 => .int .i64 (L CV.kd v)
 | 1 => .int .u64 (L CV.nn v)
 | 2 => .str (L CV.tx v)
 | _ => .lst 4 (L zfa v) (fun q j => cv1 L (L2 L zae (L CV.ls v) q) j)
def cvC (L : zaa) (v : CV) : AV := .agg [.int .i64 (L CV.kd v), .int .u64 (L CV.nn v), .str (L CV.tx v), .lst 4 (L zfa v) (fun i j => cv2 L (L2 L zae (L CV.ls v) i) j)]
theorem ywn {h : Array Obj} {D : Nat -> Prop} {μ : Mu} {c : CV} {v : Value} (r : R h D μ (cvB std c) v) : R h D μ (cvC std c) v := by
 obtain ⟨us, rfl, o1, s1, hr⟩ := R.inv_agg (cs := [.int .i64 c.kd, .int .u64 c.nn, .str c.tx, .lst 4 (zfa c) (fun i j => cv1 std (zae c.ls i) j)]) r
 refine R.agg (cs := [.int .i64 c.kd, .int .u64 c.nn, .str c.tx, .lst 4 (zfa c) (fun i j => cv2 std (zae c.ls i) j)]) _ (by rw [<- s1]; rfl) o1 fun i y v hy hv => ?_
 match i, hy with
 | 0, hy => cases hy; exact hr 0 _ v rfl hv
 | 1, hy => cases hy; exact hr 1 _ v rfl hv
 | 2, hy => cases hy; exact hr 2 _ v rfl hv
 | 3, hy =>
   cases hy
   refine ysa (hr 3 _ v rfl hv) fun i j u hi hj hu => ?_
   match j, hj with
   | 0, _ => exact hu
   | 1, _ => exact hu
   | 2, _ => exact hu
   | 3, _ => exact zp5 hu fun q k hq hk => by rw [zfo _ _ hk]; exact zb4 _ _ _ hq
 | i + 4, hy => simp at hy
noncomputable def yb6 (L : zaa) : zcl := (32, fun xs => match xs with
 | [.str s, .int .i64 a, .int .i64 d] => some (L (L3 L (zop 1000000) s a) d, .tup [cvC L (L3 L zku s a d), .int .i64 (L3 L zn0 s a d), .int .i64 (L3 L zmz s a d)])
 | _ => none)
theorem yb7 : zcs Tryz.prog (yb6 std) := by
 intro xs p r h hp
 dsimp only [yb6] at h |-
 split at h <;> cases h
 try simp only [L2, L3, std] at hp |-
 rename_i s a d
 exact yl9 (fun h D v r => yk3 (fun v => ywn) r) (yb8 _ _ _ rfl hp)
noncomputable def rqV (s : List UInt8) : List CV := (zku s 0 0).ls
def enR (v : CV) : Bool := decide (v.kd = 3) && (decide (v.ls.length = 3) && (decide ((zae v.ls 0).kd = 2) && (decide ((zae v.ls 0).tx.length = 16) && (decide ((zae v.ls 1).kd = 1) && (decide ((zae v.ls 1).nn <= 255) && (decide ((zae v.ls 2).kd = 1) && decide ((zae v.ls 2).nn <= 1)))))))
theorem zru {v : CV} : enR v = true ↔ v.kd = 3 /\ v.ls.length = 3 /\ (zae v.ls 0).kd = 2 /\ (zae v.ls 0).tx.length = 16 /\ (zae v.ls 1).kd = 1 /\ (zae v.ls 1).nn <= 255 /\ (zae v.ls 2).kd = 1 /\ (zae v.ls 2).nn <= 1 := by
 unfold enR
 simp only [Bool.and_eq_true, decide_eq_true_eq]
noncomputable def rqE (s : List UInt8) (i : Nat) : Le := enD (zae (rqV s) i)
noncomputable def rqG (s : List UInt8) (i : Nat) : Bool := enR (zae (rqV s) i) && (zcj (rqE s i) && (decide (i = 0) || decide (prN (rqE s (i - 1)).p < prN (rqE s i).p)))
noncomputable def rqB (s : List UInt8) : Bool := decide (s.length <= 8192) && (decide (zmz s 0 0 = 0) && (decide (zn0 s 0 0 = (s.length : Int)) && (decide ((zku s 0 0).kd = 3) && (decide ((rqV s).length <= 64) && (List.range (rqV s).length).all (rqG s)))))
noncomputable def rqF (s : List UInt8) : List Le := (rqV s).map enD
noncomputable def rqL (s : List UInt8) : List Le := if rqB s = true then rqF s else []
def zt2 (t : List UInt8) (j : Nat) : Pr := ⟨(List.range 16).map fun k => if k < j then zac t k else 0, by simp⟩
noncomputable def rqP (s : List UInt8) (i j : Nat) : Le := ⟨zt2 (zae (zae (rqV s) i).ls 0).tx j, (zae (zae (rqV s) i).ls 1).nn, decide ((zae (zae (rqV s) i).ls 2).nn = 1)⟩
noncomputable def rqI (s : List UInt8) (i : Nat) : Prop := i <= (rqV s).length /\ ∀ j, j < i -> rqG s j = true
noncomputable def rqMu (s : List UInt8) (i : Nat) : Nat := (rqV s).length - i
def rqJ (j : Nat) : Prop := j <= 16
def yva (j : Nat) : Nat := 16 - j
noncomputable def rqA (L : zaa) (s : List UInt8) : Nat -> St -> Option Ann := fun id st => match id with
 | 0 => some ⟨Nat, fun i => [(43, .int .i64 (L za8 i)), (7, .sl 900 18 0 i)], fun i => [(900, .row 50 18 i (fun q j => leC L (L (L rqE s) q) j))], [41, 42], [], fun i => L2 L rqI s i, fun i => L2 L rqMu s i⟩
 | 2 => zsi st 43 fun i => some ⟨Nat, fun j => [(11, .int .i64 (L za8 j))], fun j => [(10, .box 50 ((leA L (L3 L rqP s (L Int.toNat i) j)).cells))], [7, 9, 10, 41, 42, 43], [9, 900], fun j => L rqJ j, fun j => L yva j⟩
 | _ => none
noncomputable def ymb (L : zaa) : zcl := (14, fun xs => match xs with
 | [.str s] => some (True, .tup [zci L (L rqL s), .bool (L rqB s)])
 | _ => none)
theorem zuy {s : List UInt8} : rqB s = true ↔ s.length <= 8192 /\ zmz s 0 0 = 0 /\ zn0 s 0 0 = (s.length : Int) /\ (zku s 0 0).kd = 3 /\ (rqV s).length <= 64 /\ ∀ j, j < (rqV s).length -> rqG s j = true := by
 unfold rqB
 simp only [Bool.and_eq_true, decide_eq_true_eq, List.all_eq_true, List.mem_range]
theorem zxy {s : List UInt8} (h : ¬ (s.length <= 8192 /\ zmz s 0 0 = 0 /\ zn0 s 0 0 = (s.length : Int) /\ (zku s 0 0).kd = 3 /\ (rqV s).length <= 64 /\ ∀ j, j < (rqV s).length -> rqG s j = true)) : zed (.tup [zci std (rqL s), .bool (rqB s)]) (.tup [.nils, .bool false]) := by
 have h := Bool.eq_false_iff.2 fun x => h (zuy.1 x)
 have e1 : rqL s = [] := by unfold rqL; rw [h]; rfl
 rw [e1, h, zea, zay, zay, zcz, zen]
 refine ⟨?_, rfl, trivial⟩
 show zb9 (.lst 18 0 _) .nils
 rw [zk0]
theorem yb2 {s : List UInt8} (hl : s.length <= 8192) : (zj6 s = 0 ↔ zmz s 0 0 = 0 /\ zn0 s 0 0 = (s.length : Int)) /\ (zj6 s = 0 -> zku s 0 0 = zc1 s) := by
 have e : zoo s 0 0 = zc3 0 s := rfl
 obtain ⟨h1, h2⟩ := yoe hl
 have e1 : zmz s 0 0 = (zc3 0 s).e := by unfold zmz; rw [e]
 have e2 : (zc3 0 s).e = 0 -> zn0 s 0 0 = (s.length : Int) - ((zc3 0 s).r.length : Int) := fun h => by unfold zn0; rw [e, if_pos h]
 have e3 : (zc3 0 s).e = 0 -> zku s 0 0 = (zc3 0 s).v := fun h => by unfold zku; rw [e, if_pos h]
 refine ⟨?_, fun h => ?_⟩
 · rw [h1, e1]
   refine and_congr_right fun h => ?_
   rw [e2 h]
   refine ⟨fun h => by rw [h]; simp, fun h => List.eq_nil_of_length_eq_zero (by omega)⟩
 · rw [h2 h, e3 (h1.1 h).1]
theorem yr9 {s : List UInt8} (h : rqB s = true) {i : Nat} (hi : i = (rqV s).length) : zed (.tup [zci std (rqL s), .bool (rqB s)]) (.tup [.lst 18 i fun i => leC std (rqE s (Nat.add 0 i)), .bool true]) := by
 have e1 : rqL s = rqF s := by unfold rqL; rw [if_pos h]
 rw [e1, h, zea, zay, zay, zcz, zen]
 refine ⟨?_, rfl, trivial⟩
 show zb9 (.lst 18 (zkn (rqF s)) fun i => leC std (zak (rqF s) i)) _
 rw [zj8]
 have hl : (rqF s).length = (rqV s).length := by unfold rqF; rw [List.length_map]
 refine ⟨by rw [hi]; exact hl.symm, fun j k hj hk => ?_⟩
 have hj : j < (rqF s).length := hj
 have e : zak (rqF s) j = rqE s (Nat.add 0 j) := by
   rw [zd2 hj, show Nat.add 0 j = j from Nat.zero_add j]
   unfold rqE zae
   refine (List.getElem_map (f := enD) (l := rqV s) (i := j) (h := hj)).trans ?_
   rw [List.getD_eq_getElem?_getD, List.getElem?_eq_getElem (by omega)]
   rfl
 rw [e]
theorem ys3 {w : CV} (h : wfV w) : 0 <= w.nn := by
 cases w
 rw [wfV] at h
 exact h.1.1
theorem yv9 {s : List UInt8} (hl : s.length <= 8192) (h1 : zmz s 0 0 = 0) (h2 : zn0 s 0 0 = (s.length : Int)) {i k : Nat} (hi : i < (rqV s).length) (hk : k < (zae (rqV s) i).ls.length) : 0 <= (zae (zae (rqV s) i).ls k).nn := by
 obtain ⟨g1, g2⟩ := yb2 hl
 have g2 := g2 (g1.2 ⟨h1, h2⟩)
 have hw : zg6 (rqV s) := by
   unfold rqV
   rw [g2]; exact zx7 s
 have hw := zk6 hw hi
 generalize zae (rqV s) i = v at hk hw |-
 cases v
 rw [wfV] at hw
 have hk := zk6 hw.2.2 hk
 exact ys3 hk
theorem yb3 {s : List UInt8} {i : Nat} (hi : i < (rqV s).length) (h : ¬ rqG s i = true) : zed (.tup [zci std (rqL s), .bool (rqB s)]) (.tup [.nils, .bool false]) :=
 zxy fun h2 => h (h2.2.2.2.2.2 i hi)
theorem zk9 {s : List UInt8} {i : Nat} : rqG s i = true ↔ enR (zae (rqV s) i) = true /\ zcj (rqE s i) = true /\ (i = 0 \/ prN (rqE s (i - 1)).p < prN (rqE s i).p) := by
 unfold rqG
 simp only [Bool.and_eq_true, Bool.or_eq_true, decide_eq_true_eq]
theorem ymv {t : List UInt8} {j k : Nat} (hk : k < 16) : za0 (zt2 t j) k = if k < j then zac t k else 0 := by
 unfold za0 za7 zt2
 simp only [List.getD_eq_getElem?_getD]
 rw [List.getElem?_map, List.getElem?_range hk]
 rfl
theorem zcu {t : List UInt8} {j j' k : Nat} (hj : j' = j + 1) (hk : k < 16) : cond (zav (Int.toNat (za8 j)) k) (zoh t (za8 j)) (za0 (zt2 t j) k) = za0 (zt2 t j') k := by
 subst hj
 rw [show Int.toNat (za8 j) = j from Int.toNat_natCast j, ymv hk, ymv hk]
 by_cases h : j = k
 · subst h
   have : zav j j = true := by simp [zav]
   rw [this, if_neg (Nat.lt_irrefl _), if_pos (Nat.lt_succ_self _)]
   show zoh t (za8 j) = zac t j
   unfold zoh zac
   rw [show Int.toNat (za8 j) = j from Int.toNat_natCast j]
 · have : zav j k = false := by simp [zav, h]
   rw [this]
   show (if k < j then zac t k else 0) = _
   by_cases h2 : k < j
   · rw [if_pos h2, if_pos (by omega)]
   · rw [if_neg h2, if_neg (by omega)]
theorem yrr {t : List UInt8} (h : t.length = 16) : zt2 t 16 = zsf t := by
 apply Subtype.ext
 apply List.ext_getElem
 · rw [(zt2 t 16).2, (zsf t).2]
 · intro k h1 h2
   have hk : k < 16 := by rw [(zsf t).2] at h2; exact h2
   have e1 := ymv (t := t) (j := 16) hk
   have e2 := ybv h hk
   rw [if_pos hk] at e1
   unfold za0 za7 at e1 e2
   rw [List.getD_eq_getElem?_getD, List.getElem?_eq_getElem h1] at e1
   rw [List.getD_eq_getElem?_getD, List.getElem?_eq_getElem h2] at e2
   exact e1.trans e2.symm
theorem yrb {s : List UInt8} {i : Nat} (h : (zae (zae (rqV s) i).ls 0).tx.length = 16) : rqP s i 16 = rqE s i := by
 unfold rqP rqE enD
 rw [yrr h]
theorem zon (f : Nat -> Le) {y : Le} {i q j : Nat} (hy : y = f i) (hq : q < i + 1) (hj : j < 18) :
   zhv std (zbo q i) (leC std (f q) j) (zby .dead [.int .u8 (za0 y.p 0), .int .u8 (za0 y.p 1), .int .u8 (za0 y.p 2), .int .u8 (za0 y.p 3), .int .u8 (za0 y.p 4), .int .u8 (za0 y.p 5), .int .u8 (za0 y.p 6), .int .u8 (za0 y.p 7), .int .u8 (za0 y.p 8), .int .u8 (za0 y.p 9), .int .u8 (za0 y.p 10), .int .u8 (za0 y.p 11), .int .u8 (za0 y.p 12), .int .u8 (za0 y.p 13), .int .u8 (za0 y.p 14), .int .u8 (za0 y.p 15), .int .i64 y.d, .bool y.h] (Nat.add 0 (Nat.sub q i) * 18 + j)) = leC std (f q) j := by
 have e : Nat.add 0 (Nat.sub q i) * 18 + j = j := by
   rw [show Nat.add 0 (Nat.sub q i) = q - i from Nat.zero_add _, show q - i = 0 by omega, Nat.zero_mul, Nat.zero_add]
 rw [e, yd0 y hj, yr3 _ _ _ hj]
 by_cases h : q < i
 · rw [zms h]; rfl
 · have : q = i := by omega
   subst this
   rw [zq1 (by omega), <- hy]; rfl
theorem ykb {s : List UInt8} (a b : Nat) : slt (zjr (rqE s a).p) (zjr (rqE s b).p) = decide (prN (rqE s a).p < prN (rqE s b).p) :=
 zw9 (by rw [(rqE s a).p.2, (rqE s b).p.2]) (zlr _) (zlr _)
set_option maxHeartbeats 1000000 in
theorem ygy : zcs Tryz.prog (ymb std) := by
 intro xs p r h hp
 dsimp only [ymb] at h |-
 split at h <;> cases h
 try simp only [L2, L3, std] at hp |-
 rename_i s
 refine zau (T := tt) (S := fun L => zbi [yb6 L, ymk L]) (lo := fun L => rqA L s) (lb := noA) 5 (fn := Tryz.f14) (xs := fun L => [.str s]) rfl rfl (by kernel_rfl) (by kernel_rfl) rfl zah (za9 ⟨yb7, yh9, trivial⟩) (by kernel_rfl) ?_
 intro L P' Q' hL hP hQ
 obtain ⟨hE, hEo, hF, hFo, hEta, hPe, hMp, hQ0, hQo, hQ1, hQ1o, hG, hGo⟩ : zg4 L := by subst hL; exact zgx
 (cbv; try simp only [syT, true_and, and_true])
 refine ⟨fun h1 => ?_, fun h1 => ⟨?_, fun h2 => ?_, fun h2 => ⟨fun h3 => ?_, fun h3 => ⟨fun h4 => ?_, fun h4 => ⟨fun h5 => ?_, fun h5 => ⟨⟨0, ?_⟩, fun i hi => ?_⟩⟩⟩⟩⟩⟩
 · subst hL; subst hQ
   have h1 : ilt 8192 (slen s) = true := h1
   rw [zc6, zdl] at h1
   exact zxy fun h => by have := h.1; omega
 · subst hL
   have h1 : ilt 8192 (slen s) = false := h1
   rw [ze4, zdl] at h1
   show zop 1000000 s 0 0
   exact ⟨by decide, by omega, by omega, by decide, by decide, by omega⟩
 · subst hL; subst hQ
   have h2 : ine (zmz s 0 0) 0 = true := h2
   rw [zhx] at h2
   exact zxy fun h => h2 h.2.1
 · subst hL; subst hQ
   have h3 : ine (zn0 s 0 0) (slen s) = true := h3
   rw [zhx, zdl] at h3
   exact zxy fun h => h3 h.2.2.1
 · subst hL; subst hQ
   have h4 : ine (zku s 0 0).kd 3 = true := h4
   rw [zhx] at h4
   exact zxy fun h => h4 h.2.2.2.1
 · subst hL; subst hQ
   have h5 : ilt 64 (za8 (rqV s).length) = true := h5
   rw [zc6, za5] at h5
   exact zxy fun h => by have := h.2.2.2.2.1; omega
 · (cbv; try simp only [syT, true_and, and_true])
   subst hL
   exact ⟨fun _ _ _ _ => trivial, rfl, Nat.zero_le _, fun j hj => by omega⟩
 · obtain ⟨hi1, hi2⟩ : rqI s i := by
     have h := hi
     rw [hL] at h
     exact h
   clear hi
   obtain ⟨i', hi'⟩ : ∃ i', i' = i + 1 := ⟨_, rfl⟩
   (cbv; try simp only [syT, true_and, and_true])
   refine ⟨fun hlt => ?_, fun hge => ?_⟩
   · have hlt2 : i < (rqV s).length := by
       have h := hlt
       rw [hL] at h
       have h : ilt (za8 i) (za8 (rqV s).length) = true := h
       rw [zc6, za5, za5] at h
       omega
     obtain ⟨v, hv⟩ : ∃ v, v = zae (rqV s) i := ⟨_, rfl⟩
     have neg : ¬ (v.kd = 3 /\ v.ls.length = 3 /\ (zae v.ls 0).kd = 2 /\ (zae v.ls 0).tx.length = 16 /\ (zae v.ls 1).kd = 1 /\ (zae v.ls 1).nn <= 255 /\ (zae v.ls 2).kd = 1 /\ (zae v.ls 2).nn <= 1) -> zed (.tup [zci std (rqL s), .bool (rqB s)]) (.tup [.nils, .bool false]) := fun h => yb3 hlt2 fun h2 => h (by rw [hv]; exact zru.1 (zk9.1 h2).1)
     have hr : ∀ k : Int, 0 <= k -> k < 3 -> v.ls.length = 3 -> inR k (za8 (zae (rqV s) i).ls.length) = true := fun k h0 h1 h2 => by
       rw [zfn, za5, <- hv]; omega
     refine ⟨?_, fun a1 => ?_, fun a1 => ⟨fun a2 => ?_, fun a2 => ?_⟩⟩
     · subst hL
       show inR (za8 i) (za8 (rqV s).length) = true
       rw [zfn, za5, za5]; omega
     · subst hL; subst hQ
       have h : ine (zae (rqV s) i).kd 3 = true := a1
       rw [zhx, <- hv] at h
       exact neg fun x => h x.1
     · subst hL; subst hQ
       have h : ine (za8 (zae (rqV s) i).ls.length) 3 = true := a2
       rw [zhx, za5, <- hv] at h
       exact neg fun x => h (by omega)
     have b2 : v.ls.length = 3 := by
       have h := a2
       rw [hL] at h
       have h : ine (za8 (zae (rqV s) i).ls.length) 3 = false := h
       rw [zic, za5, <- hv] at h
       omega
     have b1 : zmz s 0 0 = 0 := by
       have h := h2
       rw [hL] at h
       have h : ine (zmz s 0 0) 0 = false := h
       rw [zic] at h
       exact h
     have b0 : zn0 s 0 0 = (s.length : Int) := by
       have h := h3
       rw [hL] at h
       have h : ine (zn0 s 0 0) (slen s) = false := h
       rw [zic, zdl] at h
       exact h
     have bl : s.length <= 8192 := by
       have h := h1
       rw [hL] at h
       have h : ilt 8192 (slen s) = false := h
       rw [ze4, zdl] at h
       omega
     have hn1 := yv9 bl b1 b0 hlt2 (k := 1) (by rw [<- hv]; omega)
     have r0 : L2 L inR 0 (L za8 (L zfa (L2 L zae (L CV.ls (L3 L zku s 0 0)) (L Int.toNat (L za8 i))))) = true := by rw [hL]; exact hr 0 (by decide) (by decide) b2
     have r1 : L2 L inR 1 (L za8 (L zfa (L2 L zae (L CV.ls (L3 L zku s 0 0)) (L Int.toNat (L za8 i))))) = true := by rw [hL]; exact hr 1 (by decide) (by decide) b2
     have r2 : L2 L inR 2 (L za8 (L zfa (L2 L zae (L CV.ls (L3 L zku s 0 0)) (L Int.toNat (L za8 i))))) = true := by rw [hL]; exact hr 2 (by decide) (by decide) b2
     refine ⟨r0, fun a3 => ?_, fun a3 => ⟨r0, fun a4 => ?_, fun a4 => ⟨r1, fun a5 => ?_, fun a5 => ⟨r1, fun a6 => ?_, fun a6 => ⟨r2, fun a7 => ?_, fun a7 => ⟨r2, fun a8 => ?_, fun a8 => ⟨r1, r2, ⟨0, ?_⟩, fun j hj => ?_⟩⟩⟩⟩⟩⟩⟩
     · subst hL; subst hQ
       have h : ine (zae (zae (rqV s) i).ls 0).kd 2 = true := a3
       rw [zhx, <- hv] at h
       exact neg fun x => h x.2.2.1
     · subst hL; subst hQ
       have h : ine (slen (zae (zae (rqV s) i).ls 0).tx) 16 = true := a4
       rw [zhx, zdl, <- hv] at h
       exact neg fun x => h (by omega)
     · subst hL; subst hQ
       have h : ine (zae (zae (rqV s) i).ls 1).kd 1 = true := a5
       rw [zhx, <- hv] at h
       exact neg fun x => h x.2.2.2.2.1
     · subst hL; subst hQ
       have h : ilt 255 (zae (zae (rqV s) i).ls 1).nn = true := a6
       rw [zc6, <- hv] at h
       exact neg fun x => by omega
     · subst hL; subst hQ
       have h : ine (zae (zae (rqV s) i).ls 2).kd 1 = true := a7
       rw [zhx, <- hv] at h
       exact neg fun x => h x.2.2.2.2.2.2.1
     · subst hL; subst hQ
       have h : ilt 1 (zae (zae (rqV s) i).ls 2).nn = true := a8
       rw [zc6, <- hv] at h
       exact neg fun x => by omega
     · (cbv; try simp only [syT, true_and, and_true])
       subst hL
       refine ⟨fun _ _ _ _ => trivial, fun _ _ _ _ => trivial, rfl, ?_, rfl, rfl, rfl, rfl, rfl, rfl, rfl, rfl, rfl, rfl, rfl, rfl, rfl, rfl, rfl, rfl, fun _ _ _ _ => trivial, rfl, Nat.zero_le _⟩
       have h : ilt 255 (zae (zae (rqV s) i).ls 1).nn = false := a6
       rw [ze4] at h
       show IntKind.i64.wrap (zae (zae (rqV s) i).ls 1).nn = (zae (zae (rqV s) i).ls 1).nn
       rw [zct]; omega
     · have hj2 : j <= 16 := by
         have h := hj
         rw [hL] at h
         exact h
       clear hj
       obtain ⟨j', hj'⟩ : ∃ j', j' = j + 1 := ⟨_, rfl⟩
       (cbv; try simp only [syT, true_and, and_true])
       simp only [hPe, hE, hEo, hF, hFo, hEta, hMp, hQ1, hQ1o, hQ0, hQo, hG, hGo, true_and]
       refine ⟨fun k1 => ⟨r0, ?_, ?_, j', ?_⟩, fun k1 => ?_⟩
       · subst hL
         have h : ilt (za8 j) 16 = true := k1
         rw [zc6, za5] at h
         have a4 : ine (slen (zae (zae (rqV s) i).ls 0).tx) 16 = false := a4
         rw [zic, zdl] at a4
         show inR (za8 j) (slen (zae (zae (rqV s) i).ls 0).tx) = true
         rw [zfn, za5, zdl]; omega
       · subst hL
         have h : ilt (za8 j) 16 = true := k1
         rw [zc6, za5] at h
         show inR (za8 j) (za8 16) = true
         rw [zfn, za5, za5]; omega
       · (cbv; try simp only [syT, true_and, and_true])
         subst hL
         refine ⟨fun _ _ _ _ => trivial, fun _ _ _ _ => trivial, rfl, rfl, zcu hj' (by decide), zcu hj' (by decide), zcu hj' (by decide), zcu hj' (by decide), zcu hj' (by decide), zcu hj' (by decide), zcu hj' (by decide), zcu hj' (by decide), zcu hj' (by decide), zcu hj' (by decide), zcu hj' (by decide), zcu hj' (by decide), zcu hj' (by decide), zcu hj' (by decide), zcu hj' (by decide), zcu hj' (by decide), fun _ _ _ _ => trivial, ?_, ?_, ?_⟩
         · show zcc .i64 (za8 j) 1 = za8 j'
           unfold zcc za8
           rw [zct]; omega
         · have h : ilt (za8 j) 16 = true := k1
           rw [zc6, za5] at h
           show j' <= 16
           omega
         · have h : ilt (za8 j) 16 = true := k1
           rw [zc6, za5] at h
           show 16 - j' < 16 - j
           omega
       · have hj16 : j = 16 := by
           have h := k1
           rw [hL] at h
           have h : ilt (za8 j) 16 = false := h
           rw [ze4, za5] at h
           omega
         subst hj16
         have c1 : ine (zae (rqV s) i).kd 3 = false := by have h := a1; rw [hL] at h; exact h
         have c3 : ine (zae (zae (rqV s) i).ls 0).kd 2 = false := by have h := a3; rw [hL] at h; exact h
         have c4 : ine (slen (zae (zae (rqV s) i).ls 0).tx) 16 = false := by have h := a4; rw [hL] at h; exact h
         have c5 : ine (zae (zae (rqV s) i).ls 1).kd 1 = false := by have h := a5; rw [hL] at h; exact h
         have c6 : ilt 255 (zae (zae (rqV s) i).ls 1).nn = false := by have h := a6; rw [hL] at h; exact h
         have c7 : ine (zae (zae (rqV s) i).ls 2).kd 1 = false := by have h := a7; rw [hL] at h; exact h
         have c8 : ilt 1 (zae (zae (rqV s) i).ls 2).nn = false := by have h := a8; rw [hL] at h; exact h
         rw [zic] at c1 c3 c4 c5 c7
         rw [ze4] at c6 c8
         rw [zdl] at c4
         have hE : enR (zae (rqV s) i) = true := zru.2 ⟨c1, by rw [<- hv]; exact b2, c3, by omega, c5, c6, c7, c8⟩
         have hP16 : rqP s i 16 = rqE s i := yrb (by omega)
         have hT : L (L (L rqP s) (L Int.toNat (L za8 i))) 16 = L (L rqE s) i := by rw [hL]; exact hP16
         rw [hT]
         have hd0 : 0 <= (rqE s i).d := hn1
         have h64 : (rqV s).length <= 64 := by
           have h := h5
           rw [hL] at h
           have h : ilt 64 (za8 (rqV s).length) = false := h
           rw [ze4, za5] at h
           omega
         have hU : 0 < i -> L (L Nat.add 0) (L Int.toNat (L (L (zkq .i64) (L za8 i)) 1)) = i - 1 := fun h0 => by
           rw [hL]
           show Nat.add 0 (zkq .i64 (za8 i) 1).toNat = i - 1
           rw [show Nat.add 0 (zkq .i64 (za8 i) 1).toNat = (zkq .i64 (za8 i) 1).toNat from Nat.zero_add _]
           unfold zkq za8
           rw [zct]; omega
         have room : L3 L zcq 32 i 1 = true := by
           rw [hL]
           show zcq 32 i 1 = true
           rw [zhk]; omega
         have nxt : zcj (rqE s i) = true -> (i = 0 \/ prN (rqE s (i - 1)).p < prN (rqE s i).p) -> rqI s i' := fun h1 h2 => ⟨by omega, fun j hj => by
           by_cases hj2 : j < i
           · exact hi2 j hj2
           · have : j = i := by omega
             subst this
             exact zk9.2 ⟨hE, h1, h2⟩⟩
         have bad1 : L (L ilt 0) (L za8 i) = true -> L not (L2 L slt (L zjr (L Le.p (L (L rqE s) (L (L Nat.add 0) (L Int.toNat (L (L (zkq .i64) (L za8 i)) 1)))))) (L zjr (L Le.p (L (L rqE s) i)))) = true -> Q' (.tup [.nils, .bool false]) := fun k4 k5 => by
           have k4 : 0 < i := by
             rw [hL] at k4
             have h : ilt 0 (za8 i) = true := k4
             rw [zc6, za5] at h
             omega
           rw [hU k4] at k5
           subst hL; subst hQ
           have h : (!(slt (zjr (rqE s (i - 1)).p) (zjr (rqE s i).p))) = true := k5
           rw [ykb] at h
           refine yb3 hlt2 fun hg => ?_
           rcases (zk9.1 hg).2.2 with h0 | h0
           · omega
           · rw [decide_eq_true h0] at h; cases h
         have ris : L (L ilt 0) (L za8 i) = true -> L not (L2 L slt (L zjr (L Le.p (L (L rqE s) (L (L Nat.add 0) (L Int.toNat (L (L (zkq .i64) (L za8 i)) 1)))))) (L zjr (L Le.p (L (L rqE s) i)))) = false -> (i = 0 \/ prN (rqE s (i - 1)).p < prN (rqE s i).p) := fun k4 k5 => by
           have k4 : 0 < i := by
             rw [hL] at k4
             have h : ilt 0 (za8 i) = true := k4
             rw [zc6, za5] at h
             omega
           rw [hU k4, hL] at k5
           have h : (!(slt (zjr (rqE s (i - 1)).p) (zjr (rqE s i).p))) = false := k5
           rw [ykb] at h
           by_cases h0 : prN (rqE s (i - 1)).p < prN (rqE s i).p
           · exact .inr h0
           · rw [decide_eq_false h0] at h; cases h
         have fst : L (L ilt 0) (L za8 i) = false -> (i = 0 \/ prN (rqE s (i - 1)).p < prN (rqE s i).p) := fun k4 => by
           rw [hL] at k4
           have h : ilt 0 (za8 i) = false := k4
           rw [ze4, za5] at h
           omega
         have inr0 : L (L ilt 0) (L za8 i) = true -> L (L inR (L (L (zkq .i64) (L za8 i)) 1)) (L za8 i) = true := fun k4 => by
           rw [hL] at k4 |-
           have h : ilt 0 (za8 i) = true := k4
           rw [zc6, za5] at h
           show inR (zkq .i64 (za8 i) 1) (za8 i) = true
           rw [zfn, za5]
           unfold zkq
           rw [zct]
           have : za8 i = (i : Int) := rfl
           omega
         have p16 : ∀ k, L zi0 (L Le.p (L (L rqE s) k)) := fun k => by rw [hL]; exact zlr _
         have kn : (L (L ieq (L Le.d (L (L rqE s) i))) 0 = false \/ L not (L Le.h (L (L rqE s) i)) = false) -> zcj (rqE s i) = true := fun h => by
           rw [hL] at h
           have h : ieq (rqE s i).d 0 = false \/ (!(rqE s i).h) = false := h
           unfold zcj
           rcases h with h | h
           · rw [yss] at h
             rw [decide_eq_true (by omega)]; rfl
           · cases hh : (rqE s i).h with
             | true => rw [Bool.or_true]
             | false => rw [hh] at h; cases h
         have bad0 : L (L ieq (L Le.d (L (L rqE s) i))) 0 = true -> L not (L Le.h (L (L rqE s) i)) = true -> Q' (.tup [.nils, .bool false]) := fun h1 h2 => by
           subst hL; subst hQ
           have h1 : ieq (rqE s i).d 0 = true := h1
           have h2 : (!(rqE s i).h) = true := h2
           rw [ydo] at h1
           refine yb3 hlt2 fun hg => ?_
           have := (zk9.1 hg).2.1
           unfold zcj at this
           rw [h1] at this
           cases hh : (rqE s i).h with
           | true => rw [hh] at h2; cases h2
           | false => rw [hh] at this; cases this
         refine ⟨fun k2 => ⟨fun k3 => bad0 k2 k3, fun k3 => ⟨fun k4 => ⟨inr0 k4, p16 _, p16 _, fun k5 => bad1 k4 k5, fun k5 => ⟨room, i', ?_⟩⟩, fun k4 => ⟨room, i', ?_⟩⟩⟩, fun k2 => ⟨fun k4 => ⟨inr0 k4, p16 _, p16 _, fun k5 => bad1 k4 k5, fun k5 => ⟨room, i', ?_⟩⟩, fun k4 => ⟨room, i', ?_⟩⟩⟩
         · have hg := nxt (kn (.inr k3)) (ris k4 k5)
           (cbv; try simp only [syT, true_and, and_true])
           subst hL
           refine ⟨⟨hi'.symm, fun q j hq hj => zon (rqE s) rfl (by omega) hj⟩, fun _ _ _ _ => trivial, hi'.symm, ?_, hg, ?_⟩
           · show zcc .i64 (za8 i) 1 = za8 i'
             unfold zcc za8
             rw [zct]; omega
           · show (rqV s).length - i' < (rqV s).length - i
             omega
         · have hg := nxt (kn (.inr k3)) (fst k4)
           (cbv; try simp only [syT, true_and, and_true])
           subst hL
           refine ⟨⟨hi'.symm, fun q j hq hj => zon (rqE s) rfl (by omega) hj⟩, fun _ _ _ _ => trivial, hi'.symm, ?_, hg, ?_⟩
           · show zcc .i64 (za8 i) 1 = za8 i'
             unfold zcc za8
             rw [zct]; omega
           · show (rqV s).length - i' < (rqV s).length - i
             omega
         · have hg := nxt (kn (.inl k2)) (ris k4 k5)
           (cbv; try simp only [syT, true_and, and_true])
           subst hL
           refine ⟨⟨hi'.symm, fun q j hq hj => zon (rqE s) rfl (by omega) hj⟩, fun _ _ _ _ => trivial, hi'.symm, ?_, hg, ?_⟩
           · show zcc .i64 (za8 i) 1 = za8 i'
             unfold zcc za8
             rw [zct]; omega
           · show (rqV s).length - i' < (rqV s).length - i
             omega
         · have hg := nxt (kn (.inl k2)) (fst k4)
           (cbv; try simp only [syT, true_and, and_true])
           subst hL
           refine ⟨⟨hi'.symm, fun q j hq hj => zon (rqE s) rfl (by omega) hj⟩, fun _ _ _ _ => trivial, hi'.symm, ?_, hg, ?_⟩
           · show zcc .i64 (za8 i) 1 = za8 i'
             unfold zcc za8
             rw [zct]; omega
           · show (rqV s).length - i' < (rqV s).length - i
             omega
   · have hge2 : i = (rqV s).length := by
       have h := hge
       rw [hL] at h
       have h : ilt (za8 i) (za8 (rqV s).length) = false := h
       rw [ze4, za5, za5] at h
       omega
     subst hL; subst hQ
     have b1 : zmz s 0 0 = 0 := by
       have h : ine (zmz s 0 0) 0 = false := h2
       rw [zic] at h
       exact h
     have b0 : zn0 s 0 0 = (s.length : Int) := by
       have h : ine (zn0 s 0 0) (slen s) = false := h3
       rw [zic, zdl] at h
       exact h
     have bl : s.length <= 8192 := by
       have h : ilt 8192 (slen s) = false := h1
       rw [ze4, zdl] at h
       omega
     have bk : (zku s 0 0).kd = 3 := by
       have h : ine (zku s 0 0).kd 3 = false := h4
       rw [zic] at h
       exact h
     have b64 : (rqV s).length <= 64 := by
       have h : ilt 64 (za8 (rqV s).length) = false := h5
       rw [ze4, za5] at h
       omega
     exact yr9 (zuy.2 ⟨bl, b1, b0, bk, b64, fun j hj => hi2 j (by omega)⟩) hge2
theorem yt7 {v : CV} (h : enR v = true) : enB v = true := by
 obtain ⟨h1, h2, h3, h4, h5, h6, h7, h8⟩ := zru.1 h
 exact zrv.2 ⟨h1, h2, h4, h6, h8⟩
theorem yl1 {e : Le} (h : zig e) : enD (zc0 e) = e := by
 obtain ⟨h1, h2⟩ := h
 show (⟨zsf (zjr e.p), e.d, decide (zs5 e.h = 1)⟩ : Le) = e
 rw [ymr h1]
 cases e with
 | mk p d h => cases h <;> rfl
theorem yt6 {e : Le} (h : zig e) : enR (zc0 e) = true := by
 refine zru.2 ⟨rfl, rfl, rfl, zoq e.p, rfl, h.2.2, rfl, ?_⟩
 show zs5 e.h <= 1
 unfold zs5
 split <;> omega
theorem yln {v : CV} (hw : wfV v) (h : enR v = true) : zbd (zc0 (enD v)) = zbd v := by
 obtain ⟨h1, h2, h3, h4, h5, h6, h7, h8⟩ := zru.1 h
 obtain ⟨k, n, t, l⟩ := v
 have h1 : k = 3 := h1
 subst h1
 match l, h2 with
 | [a, b, c], _ =>
   have h3 : a.kd = 2 := h3
   have h4 : a.tx.length = 16 := h4
   have h5 : b.kd = 1 := h5
   have h7 : c.kd = 1 := h7
   have h8 : c.nn <= 1 := h8
   rw [wfV, zg6, zg6, zg6] at hw
   have hc := ys3 hw.2.2.2.2.1
   have e1 : enD (.mk 3 n t [a, b, c]) = ⟨zsf a.tx, b.nn, decide (c.nn = 1)⟩ := rfl
   rw [e1]
   have hb : zs5 (decide (c.nn = 1)) = c.nn := by
     unfold zs5
     by_cases h9 : c.nn = 1
     · rw [if_pos (decide_eq_true h9), h9]
     · rw [if_neg (by rw [decide_eq_false h9]; decide)]; omega
   show zbd (zf7 [yfr (zjr (zsf a.tx)), zkm b.nn, zkm (zs5 (decide (c.nn = 1)))]) = _
   rw [yms h4, hb]
   unfold zf7
   rw [zal, zal, if_neg (by decide), if_neg (by decide), if_neg (by decide), if_neg (by decide)]
   congr 2
   rw [zao, zao, zao, zao, zao, zao, zao, zao]
   obtain ⟨ka, na, ta, la⟩ := a
   obtain ⟨kb, nb, tb, lb⟩ := b
   obtain ⟨kc, nc, tc, lc⟩ := c
   have h3 : ka = 2 := h3
   have h5 : kb = 1 := h5
   have h7 : kc = 1 := h7
   subst h3 h5 h7
   rfl
theorem zuo : ∀ {l : List CV}, zg6 l -> (∀ v ∈ l, enR v = true) -> zao (zj0 (l.map enD)) = zao l
 | [], _, _ => rfl
 | v :: l, hw, h => by
   rw [zg6] at hw
   have ih := zuo hw.2 (fun x hx => h x (List.mem_cons_of_mem _ hx))
   have e : zj0 ((v :: l).map enD) = zc0 (enD v) :: zj0 (l.map enD) := rfl
   rw [e, zao, zao, ih, yln hw.1 (h v (by simp))]
theorem ygb : ∀ {v : CV}, v.kd = 3 -> zg6 v.ls -> (∀ x ∈ v.ls, enR x = true) -> ldT (v.ls.map enD) = zbd v
 | .mk k n t l, hk, hw, h => by
   have hk : k = 3 := hk
   subst hk
   have hw : zg6 l := hw
   have h : ∀ x ∈ l, enR x = true := h
   show ldT (l.map enD) = _
   have hlen : (zj0 (l.map enD)).length = l.length := by simp [zj0]
   unfold ldT zdq zf7
   rw [zal, zal, if_neg (by decide), if_neg (by decide), if_neg (by decide), if_neg (by decide), zuo hw h, hlen]
theorem ymn {l : List Le} {e : Le} (hl : zef l) (he : zig e) (hk : zcj e = true) (h : ∀ x ∈ l, kLe x < kLe e) : zca l e = l ++ [e] := by
 have hno : zcf e.p l = false := by
   cases hh : zcf e.p l with
   | false => rfl
   | true =>
     obtain ⟨x, hx, hp⟩ := yob.1 hh
     have := h x hx
     rw [kLe, kLe, hp] at this
     omega
 have hlb : ∀ {m : List Le}, (∀ x ∈ m, kLe x < kLe e) -> zdr (kLe e) m = m.length := by
   intro m
   induction m with
   | nil => intro _; rfl
   | cons y m ih =>
     intro h
     unfold zdr
     rw [if_pos (h y (by simp)), ih (fun x hx => h x (List.mem_cons_of_mem _ hx)), List.length_cons]
 unfold zca
 rw [if_pos hk]
 unfold zgm
 rw [if_neg (by rw [hno]; decide), hlb h]
 unfold yd8
 rw [List.take_length, List.drop_length]
theorem zv5 : ∀ {vs : List CV} {l : List Le}, zef l -> (∀ v ∈ vs, enV v = enD v /\ zig (enD v) /\ zcj (enD v) = true) -> ((l ++ vs.map enD).Pairwise fun a b => kLe a < kLe b) -> vs.foldl (fun l v => zca l (enV v)) l = l ++ vs.map enD
 | [], l, _, _, _ => by simp
 | v :: vs, l, hl, hv, hp => by
   obtain ⟨e1, e2, e3⟩ := hv v (by simp)
   have hlt : ∀ x ∈ l, kLe x < kLe (enD v) := fun x hx => (List.pairwise_append.1 hp).2.2 x hx _ (by simp)
   have e4 := ymn hl e2 e3 hlt
   rw [List.foldl_cons, e1, e4, zv5 (by rw [<- e4]; exact zpb hl e2) (fun x hx => hv x (List.mem_cons_of_mem _ hx)) (by simpa using hp)]
   simp
theorem ybn {l : List Le} {e : Le} (h : ∀ x ∈ l, zcj x = true) : ∀ x ∈ zca l e, zcj x = true := by
 have ho : ∀ x ∈ zgm e l, zcj x = true := by
   intro x hx
   unfold zgm at hx
   split at hx
   · exact h x (zr7 hx)
   · exact h x hx
 intro x hx
 unfold zca at hx
 split at hx
 · rename_i hk
   unfold yd8 at hx
   rcases List.mem_append.1 hx with hx | hx
   · exact ho x (List.mem_of_mem_take hx)
   · rcases List.mem_cons.1 hx with rfl | hx
     · exact hk
     · exact ho x (List.mem_of_mem_drop hx)
 · exact ho x hx
theorem znd : ∀ (vs : List CV) (l : List Le), (∀ x ∈ l, zcj x = true) -> ∀ x ∈ vs.foldl (fun l v => zca l (enV v)) l, zcj x = true
 | [], l, h => h
 | v :: vs, l, h => znd vs _ (ybn h)
theorem yrg {s : List UInt8} (h : ∀ j, j < (rqV s).length -> rqG s j = true) : (rqF s).Pairwise fun a b => kLe a < kLe b := by
 have hl : (rqF s).length = (rqV s).length := by unfold rqF; rw [List.length_map]
 have at' : ∀ (j : Nat) (hj : j < (rqF s).length), (rqF s)[j] = rqE s j := fun j hj => by
   unfold rqE zae
   refine (List.getElem_map (f := enD) (l := rqV s) (i := j) (h := hj)).trans ?_
   rw [List.getD_eq_getElem?_getD, List.getElem?_eq_getElem (by omega)]
   rfl
 have key : ∀ (d i : Nat), i + d + 1 < (rqV s).length -> prN (rqE s i).p < prN (rqE s (i + d + 1)).p := by
   intro d
   induction d with
   | zero =>
     intro i hi
     rcases (zk9.1 (h (i + 0 + 1) hi)).2.2 with h0 | h0
     · omega
     · exact h0
   | succ d ih =>
     intro i hi
     have h1 := ih i (by omega)
     rcases (zk9.1 (h (i + (d + 1) + 1) hi)).2.2 with h0 | h0
     · omega
     · have e : i + (d + 1) + 1 - 1 = i + d + 1 := by omega
       rw [e] at h0
       omega
 rw [List.pairwise_iff_getElem]
 intro i j hi hj hij
 rw [at' i hi, at' j hj]
 have := key (j - i - 1) i (by omega)
 rw [show i + (j - i - 1) + 1 = j by omega] at this
 exact this
theorem yra {s : List UInt8} (h : rqB s = true) : yfz s = true /\ zl1 s = rqL s := by
 obtain ⟨h1, h2, h3, h4, h5, h6⟩ := zuy.1 h
 obtain ⟨g1, g2⟩ := yb2 h1
 have g1 := g1.2 ⟨h2, h3⟩
 have g2 := g2 g1
 have eV : rqV s = (zc1 s).ls := by unfold rqV; rw [g2]
 have hw := zx7 s
 have hR : ∀ v ∈ (zc1 s).ls, enR v = true /\ zcj (enD v) = true := by
   intro v hv
   obtain ⟨j, hj, rfl⟩ := List.getElem_of_mem hv
   obtain ⟨k1, k2, _⟩ := zk9.1 (h6 j (by rw [eV]; exact hj))
   unfold rqE at k2
   rw [eV, zae, List.getD_eq_getElem?_getD, List.getElem?_eq_getElem hj] at k1 k2
   exact ⟨k1, k2⟩
 have hF : rqF s = (zc1 s).ls.map enD := by unfold rqF; rw [eV]
 have hk : ∀ v ∈ (zc1 s).ls, enV v = enD v /\ zig (enD v) /\ zcj (enD v) = true := by
   intro v hv
   have e : enV v = enD v := by unfold enV; rw [if_pos (yt7 (hR v hv).1)]
   have := ye8 v (zuh hw v hv)
   rw [e] at this
   exact ⟨e, this, (hR v hv).2⟩
 have hp : pzF (zc1 s).ls = (zc1 s).ls.map enD := by
   have := zv5 (l := []) yd7 hk (by rw [List.nil_append, <- hF]; exact yrg h6)
   rw [List.nil_append] at this
   exact this
 have hT : ldT (pzF (zc1 s).ls) = s := by
   rw [hp]
   rw [ygb (by rw [<- g2]; exact h4) hw (fun v hv => (hR v hv).1)]
   exact yiz g1
 have hB : yfz s = true := zm2.2 ⟨g1, by rw [<- g2]; exact h4, by rw [<- eV]; exact h5, fun v hv => yt7 (hR v hv).1, hT⟩
 refine ⟨hB, ?_⟩
 unfold zl1 rqL
 rw [if_pos hB, if_pos h, hp, hF]
theorem ynl {l : List Le} (hl : ztf l) (hk : ∀ e ∈ l, zcj e = true) (hr : l.Pairwise fun a b => kLe a < kLe b) : rqB (ldT l) = true /\ rqL (ldT l) = l := by
 obtain ⟨q1, q2, q3, q4, q5, q6, q7, q8⟩ := zm4 hl
 obtain ⟨hl64, hok⟩ := hl
 obtain ⟨g1, g2⟩ := ysu q5 q6 q7 q8
 obtain ⟨r1, r2⟩ := yb2 q8
 have r2 := r2 g2
 have r1 := r1.1 g2
 have eV : rqV (ldT l) = zj0 l := by
   unfold rqV
   rw [r2]
   show (zc1 (zbd (zdq l))).ls = zj0 l
   rw [g1]; rfl
 have hlen : (zj0 l).length = l.length := by simp [zj0]
 have hat : ∀ (j : Nat) (hj : j < l.length), zae (rqV (ldT l)) j = zc0 l[j] := fun j hj => by
   rw [eV, zae, List.getD_eq_getElem?_getD, List.getElem?_eq_getElem (by rw [hlen]; exact hj)]
   show (zj0 l)[j]'_ = zc0 l[j]
   unfold zj0
   rw [List.getElem_map]
 have hE : ∀ (j : Nat) (hj : j < l.length), rqE (ldT l) j = l[j] := fun j hj => by
   unfold rqE
   rw [hat j hj, yl1 (hok _ (List.getElem_mem hj))]
 have hB : rqB (ldT l) = true := by
   refine zuy.2 ⟨q8, r1.1, r1.2, ?_, by rw [eV, hlen]; exact hl64, fun j hj => ?_⟩
   · rw [r2]
     show (zc1 (zbd (zdq l))).kd = 3
     rw [g1]; rfl
   · have hj : j < l.length := by rw [eV, hlen] at hj; exact hj
     refine zk9.2 ⟨?_, ?_, ?_⟩
     · rw [hat j hj]; exact yt6 (hok _ (List.getElem_mem hj))
     · rw [hE j hj]; exact hk _ (List.getElem_mem hj)
     · by_cases h0 : j = 0
       · exact .inl h0
       · refine .inr ?_
         rw [hE j hj, hE (j - 1) (by omega)]
         exact List.pairwise_iff_getElem.1 hr (j - 1) j (by omega) hj (by omega)
 refine ⟨hB, ?_⟩
 unfold rqL rqF
 rw [if_pos hB, eV]
 unfold zj0
 rw [List.map_map]
 conv => rhs; rw [<- List.map_id l]
 exact List.map_congr_left fun e he => yl1 (hok e he)
theorem ykr {s : List UInt8} (h : yfz s = true) : rqB s = true /\ ztf (zl1 s) /\ ldT (zl1 s) = s := by
 obtain ⟨h1, h2, h3, h4, h5⟩ := zm2.1 h
 have e : zl1 s = pzF (zc1 s).ls := by unfold zl1; rw [if_pos h]
 have hz := zv4 (zc1 s).ls [] yd7 (fun v hv => zuh (zx7 s) v hv)
 have hz1 : zef (pzF (zc1 s).ls) := hz.1
 have hz2 : (pzF (zc1 s).ls).length <= 64 := by
   have : (pzF (zc1 s).ls).length <= _ := hz.2
   simp only [List.length_nil] at this
   omega
 have hk : ∀ x ∈ pzF (zc1 s).ls, zcj x = true := znd (zc1 s).ls [] (fun x hx => by cases hx)
 have hp : ztf (pzF (zc1 s).ls) := ⟨hz2, hz1.ok⟩
 have := ynl hp hk hz1.ris
 rw [h5] at this
 refine ⟨this.1, ?_, ?_⟩
 · rw [e]; exact hp
 · rw [e]; exact h5
theorem yc0 (s : List UInt8) : yfz s = rqB s /\ zl1 s = rqL s := by
 by_cases h : rqB s = true
 · obtain ⟨h1, h2⟩ := yra h
   exact ⟨by rw [h1, h], h2⟩
 · have h0 : ¬ yfz s = true := fun h2 => h (ykr h2).1
   refine ⟨by rw [Bool.eq_false_iff.2 h, Bool.eq_false_iff.2 h0], ?_⟩
   unfold zl1 rqL
   rw [if_neg h, if_neg h0]
theorem ysb (s : List UInt8) : zef (zl1 s) /\ (zl1 s).length <= 1000000 := by
 unfold zl1
 split
 · rename_i h
   obtain ⟨h1, h2, h3, h4, h5⟩ := zm2.1 h
   have hz := zv4 (zc1 s).ls [] yd7 (fun v hv => zuh (zx7 s) v hv)
   refine ⟨hz.1, ?_⟩
   have : (pzF (zc1 s).ls).length <= _ := hz.2
   simp only [List.length_nil] at this
   omega
 · exact ⟨yd7, Nat.zero_le _⟩
theorem yga (s : List UInt8) : zaf Tryz.prog 5 [.str s] (.bool true) := by
 refine zau (T := tt) (S := fun L => zbi [tru 7, ynh L, ymb L, ywc L, yi2 L]) (lo := noA) (lb := noA) 5 (fn := Tryz.f5) (xs := fun L => [.str s]) rfl rfl (by kernel_rfl) (by kernel_rfl) rfl zah (za9 ⟨zco zz3, yi3, ygy, ynx, zvz, trivial⟩) (by kernel_rfl) ?_
 intro L P' Q' hL hP hQ
 obtain ⟨hE, hEo, hF, hFo, hEta, hPe, hMp, hQ0, hQo, hQ1, hQ1o, hG, hGo⟩ : zg4 L := by subst hL; exact zgx
 (cbv; try simp only [syT, true_and, and_true])
 simp only [hPe, hE, hEo, hF, hFo, hEta, hMp, hQ1, hQ1o, hQ0, hQo, hG, hGo, true_and]
 subst hL; subst hQ
 obtain ⟨o1, o2⟩ := ysb s
 obtain ⟨e1, e2⟩ := yc0 s
 have hE : ytp (ieq (ycv s) 0) (rqB s) = true := by
   unfold ycv
   rw [e1]
   cases rqB s <;> rfl
 have hI : yum (zl1 s) (rqL s) = true := by
   unfold yum
   rw [e2]; simp
 have hl : ze3 (zl1 s) /\ ze3 (rqL s) /\ zef (zl1 s) := ⟨o2, by rw [<- e2]; exact o2, o1⟩
 have hR : rqB s = true -> ztf (zl1 s) /\ ldT (zl1 s) = s := fun h => (ykr (e1.trans h)).2
 refine ⟨fun h => (by cases h), fun _ => ⟨fun _ => ?_, fun _ => ⟨fun _ => ⟨fun h => ⟨hl, fun _ => ⟨fun h2 => ?_, fun _ => ⟨(hR h).1, ?_⟩⟩, fun h2 => ?_⟩, fun h => ⟨fun h3 => ⟨hl, fun _ => ⟨fun _ => ?_, fun h2 => ?_⟩, fun h2 => ?_⟩, fun h3 => ?_⟩⟩, fun h => ?_⟩⟩⟩
 · rw [zbp]
 · rw [zbp]
 · rw [zbp]
   show seq (ldT (zl1 s)) s = true
   rw [ym1]; exact (hR h).2
 · exact absurd (hI.symm.trans h2) (by decide)
 · rw [zbp]
 · have h : rqB s = false := h
   have h2 : (!(rqB s)) = false := h2
   rw [h] at h2; cases h2
 · exact absurd (hI.symm.trans h2) (by decide)
 · have h : rqB s = false := h
   have h3 : ieq (ycv s) 23 = false := h3
   unfold ycv at h3
   rw [e1, h] at h3
   cases h3
 · exact absurd (hE.symm.trans h) (by decide)
theorem law_LedgerTexts (s : List UInt8) (hs : s.length <= maxLen) : zaf Tryz.prog 5 [.str s] (.bool true) := yga s
end Sy
end Go.Proofs.YtlphgephdhadhaaGreat
