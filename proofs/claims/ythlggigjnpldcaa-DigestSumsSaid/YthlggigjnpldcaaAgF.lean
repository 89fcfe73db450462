/- Chapter 6 (digest): the document's sum. -/
import Derived.Test.YthlggigjnpldcaaAgE
namespace Go.Proofs.Ythlggigjnpldcaa
namespace Sy
open Go Go.RowKit
set_option maxRecDepth 100000
set_option linter.unusedSimpArgs false
set_option linter.unusedVariables false

/-! ### Words as bits -/
abbrev B32 (a : Int) : BitVec IntKind.u32.bits := BitVec.ofInt IntKind.u32.bits a
def n32 (b : BitVec IntKind.u32.bits) : Int := b.toNat
theorem w_n32 (b : BitVec IntKind.u32.bits) : IntKind.u32.wrap b.toNat = n32 b := by
  rw [w_u32, n32]
  have : b.toNat < 2 ^ 32 := b.isLt
  omega
theorem B_n32 (b : BitVec IntKind.u32.bits) : B32 (n32 b) = b := by
  rw [B32, n32, BitVec.ofInt_natCast, BitVec.ofNat_toNat, BitVec.setWidth_eq]
theorem B_wrap (a : Int) : B32 (IntKind.u32.wrap a) = B32 a := by
  apply BitVec.eq_of_toInt_eq
  rw [B32, B32, BitVec.toInt_ofInt, BitVec.toInt_ofInt, w_u32]
  exact Int.emod_bmod (x := a) (n := 4294967296)
theorem and_is (a b : Int) : band .u32 a b = n32 (B32 a &&& B32 b) := w_n32 _
theorem or_is (a b : Int) : bor .u32 a b = n32 (B32 a ||| B32 b) := w_n32 _
theorem xor_is (a b : Int) : bxor .u32 a b = n32 (B32 a ^^^ B32 b) := w_n32 _
theorem ones32 : B32 4294967295 = BitVec.allOnes IntKind.u32.bits := by decide
theorem not_is (e : Int) : B32 (wsub .u32 4294967295 e) = ~~~ (B32 e) := by
  rw [wsub, B_wrap, B32, Int.sub_eq_add_neg, BitVec.ofInt_add, BitVec.ofInt_neg, ← BitVec.sub_eq_add_neg]
  show B32 4294967295 - B32 e = _
  rw [ones32, BitVec.allOnes_sub_eq_not]
theorem not_is' (e : Int) : B32 (bxor .u32 4294967295 e) = ~~~ (B32 e) := by
  rw [xor_is, B_n32, ones32, BitVec.allOnes_xor]
theorem ch_is (e f g : Int) : bxor .u32 (band .u32 e f) (band .u32 (wsub .u32 4294967295 e) g) = bor .u32 (band .u32 e f) (band .u32 (bxor .u32 4294967295 e) g) := by
  rw [xor_is, or_is, and_is, and_is, and_is, B_n32, B_n32, B_n32, not_is, not_is']
  congr 1
  apply BitVec.eq_of_getLsbD_eq
  intro i hi
  simp only [BitVec.getLsbD_xor, BitVec.getLsbD_or, BitVec.getLsbD_and, BitVec.getLsbD_not]
  cases (B32 e).getLsbD i <;> cases (B32 f).getLsbD i <;> cases (B32 g).getLsbD i <;> simp
theorem maj_is (a b c : Int) : bxor .u32 (bxor .u32 (band .u32 a b) (band .u32 a c)) (band .u32 b c) = bor .u32 (band .u32 a b) (band .u32 c (bor .u32 a b)) := by
  rw [xor_is, xor_is, or_is, and_is, and_is, and_is, and_is, or_is, B_n32, B_n32, B_n32, B_n32, B_n32, B_n32]
  congr 1
  apply BitVec.eq_of_getLsbD_eq
  intro i hi
  simp only [BitVec.getLsbD_xor, BitVec.getLsbD_or, BitVec.getLsbD_and]
  cases (B32 a).getLsbD i <;> cases (B32 b).getLsbD i <;> cases (B32 c).getLsbD i <;> rfl
theorem or_comm (a b : Int) : bor .u32 a b = bor .u32 b a := by
  rw [or_is, or_is, BitVec.or_comm]
theorem rl_at : ∀ c : _root_.Fin 32, 1 ≤ c.val → rlS (wsub .i64 0 c.val) = wsub .i64 32 c.val ∧ wsub .u64 32 (wsub .i64 32 c.val) = c.val := by decide +kernel
theorem rl_rotr (x : Int) {c : Nat} (h1 : 1 ≤ c) (h2 : c < 32) : rlZ x (wsub .i64 0 c) = rotrZ x c := by
  obtain ⟨e1, e2⟩ := rl_at ⟨c, h2⟩ h1
  simp only at e1 e2
  rw [rlZ, rotrZ, e1, e2, or_comm]
theorem rot_t (x : Int) {a b : Nat} (c : Int) (ha : 1 ≤ a ∧ a < 32) (hb : 1 ≤ b ∧ b < 32) : bxor .u32 (bxor .u32 (rotrZ x a) (rotrZ x b)) (wshr .u32 x c) = rot5 (x, a, b, c, true) := by
  show _ = bxor .u32 (bxor .u32 (rlZ x (wsub .i64 0 a)) (rlZ x (wsub .i64 0 b))) (wshr .u32 x c)
  rw [rl_rotr x ha.1 ha.2, rl_rotr x hb.1 hb.2]
theorem rot_f (x : Int) {a b c : Nat} (ha : 1 ≤ a ∧ a < 32) (hb : 1 ≤ b ∧ b < 32) (hc : 1 ≤ c ∧ c < 32) : bxor .u32 (bxor .u32 (rotrZ x a) (rotrZ x b)) (rotrZ x c) = rot5 (x, a, b, c, false) := by
  show _ = bxor .u32 (bxor .u32 (rlZ x (wsub .i64 0 a)) (rlZ x (wsub .i64 0 b))) (rlZ x (wsub .i64 0 c))
  rw [rl_rotr x ha.1 ha.2, rl_rotr x hb.1 hb.2, rl_rotr x hc.1 hc.2]

/-! ### The walk -/
def at64 (n : Nat) : Int := 64 * n
def wB (p : List UInt8) (a : Int) (n : Nat) : List Int := wN (blkOf p (a.toNat / 64)) n
def wP (p : List UInt8) (a i : Int) (m : Nat) : List Int := wN (blkOf p (a.toNat / 64)) i.toNat ++ [(getL ((p.drop (a.toNat + 4 * i.toNat)).take m) : Int)]
def vB (p : List UInt8) (a : Int) (n : Nat) : List Int := vS (blkOf p (a.toNat / 64)) (shaH p (a.toNat / 64)) n
def hB (p : List UInt8) (a : Int) (n : Nat) : List Int := hS (blkOf p (a.toNat / 64)) (shaH p (a.toNat / 64)) n
def rOut (m : List Int) (n : Nat) : List UInt8 := (outL m 8).take n
def nbk (p : List UInt8) : Nat := p.length / 64
def rtA (L : Seal) (p : List UInt8) (m : List Int) : Nat → St → Option Ann := fun id st => match id with
  | 0 => some ⟨Nat, fun n => [(6, .int .i64 (L at64 n)), (3, .str p)], fun n => [(26, .row 50 1 8 (fun i _ => .int .u32 (L2 L nthI (L2 L shaH p n) i)))], [4, 5], [], fun n => L2 L (fun (p : List UInt8) (n : Nat) => n ≤ nbk p) p n, fun n => L2 L (fun (p : List UInt8) (n : Nat) => nbk p - n) p n⟩
  | 2 => withInt st 6 fun a => some ⟨Nat, fun n => [(8, .int .i64 (L natI n))], fun n => [(33, .row 50 1 64 (fun i _ => .int .u32 (L2 L nthI (L3 L wB p a n) i)))], [3, 4, 5, 6, 7], [26], fun n => L (fun n : Nat => n ≤ 16) n, fun n => L (fun n : Nat => 16 - n) n⟩
  | 4 => withInt st 6 fun a => withInt st 8 fun j => some ⟨Nat, fun n => [(9, .int .i64 (L natI n))], fun n => [(33, .row 50 1 64 (fun i _ => .int .u32 (L2 L nthI (L (L3 L wP p a j) n) i)))], [3, 4, 5, 6, 7, 8], [26], fun n => L (fun n : Nat => n ≤ 4) n, fun n => L (fun n : Nat => 4 - n) n⟩
  | 6 => withInt st 6 fun a => some ⟨Nat, fun n => [(10, .int .i64 (L natI n))], fun n => [(33, .row 50 1 64 (fun i _ => .int .u32 (L2 L nthI (L3 L wB p a n) i)))], [3, 4, 5, 6, 7], [26], fun n => L (fun n : Nat => 16 ≤ n ∧ n ≤ 64) n, fun n => L (fun n : Nat => 64 - n) n⟩
  | 8 => withInt st 6 fun a => some ⟨Nat, fun n => [(14, .int .i64 (L natI n)), (13, .sl 900 1 0 8)], fun n => [(900, .row 50 1 8 (fun i _ => .int .u32 (L2 L nthI (L3 L vB p a n) i)))], [3, 4, 5, 6, 7], [26, 33], fun n => L (fun n : Nat => n ≤ 64) n, fun n => L (fun n : Nat => 64 - n) n⟩
  | 10 => withInt st 6 fun a => some ⟨Nat, fun n => [(20, .int .i64 (L natI n))], fun n => [(26, .row 50 1 8 (fun i _ => .int .u32 (L2 L nthI (L3 L hB p a n) i)))], [3, 4, 5, 6, 13], [900], fun n => L (fun n : Nat => n ≤ 8) n, fun n => L (fun n : Nat => 8 - n) n⟩
  | 12 => some ⟨Nat, fun n => [(22, .int .i64 (L natI n))], fun n => [(280, .row 5 1 32 (fun i _ => .int .u8 (L2 L byteAt (L2 L rOut m n) i)))], [5, 21], [26], fun n => L (fun n : Nat => n ≤ 32) n, fun n => L (fun n : Nat => 32 - n) n⟩
  | _ => none
def reft_s (L : Seal) : Ent1 := (31, fun xs => match xs with | [.str s] => some (L2 L upto 1000000 s, .str (L prtZ s)) | _ => none)
theorem rotA (x : Int) : rot5 (x, 7, 18, 3, true) = bxor .u32 (bxor .u32 (rotrZ x 7) (rotrZ x 18)) (wshr .u32 x 3) := (rot_t (a := 7) (b := 18) x 3 (by decide) (by decide)).symm
theorem rotB (x : Int) : rot5 (x, 17, 19, 10, true) = bxor .u32 (bxor .u32 (rotrZ x 17) (rotrZ x 19)) (wshr .u32 x 10) := (rot_t (a := 17) (b := 19) x 10 (by decide) (by decide)).symm
theorem rotC (x : Int) : rot5 (x, 6, 11, 25, false) = bxor .u32 (bxor .u32 (rotrZ x 6) (rotrZ x 11)) (rotrZ x 25) := (rot_f (a := 6) (b := 11) (c := 25) x (by decide) (by decide) (by decide)).symm
theorem rotD (x : Int) : rot5 (x, 2, 13, 22, false) = bxor .u32 (bxor .u32 (rotrZ x 2) (rotrZ x 13)) (rotrZ x 22) := (rot_f (a := 2) (b := 13) (c := 22) x (by decide) (by decide) (by decide)).symm
theorem le32 {n : Int} (h : decide (0 ≤ n ∧ n ≤ 32) = true) : std (fun n : Int => 0 ≤ n ∧ n ≤ 32) n := by
  have h : 0 ≤ n ∧ n ≤ 32 := of_decide_eq_true h
  exact h
theorem vS_up {s : List UInt8} {h : List Int} {r r' : Nat} (hr : r' = r + 1) : vS s h r' = step8 (vS s h r) (nthI keysL r) (nthI (wN s 64) r) := by
  subst hr; rfl
theorem at64_n (k : Nat) : (at64 k).toNat = 64 * k := by unfold at64; omega
theorem wB_is (p : List UInt8) (k n : Nat) : wB p (at64 k) n = wN (blkOf p k) n := by
  rw [wB, at64_n, Nat.mul_div_cancel_left _ (by decide)]
theorem vB_is (p : List UInt8) (k n : Nat) : vB p (at64 k) n = vS (blkOf p k) (shaH p k) n := by
  rw [vB, at64_n, Nat.mul_div_cancel_left _ (by decide)]
theorem hB_is (p : List UInt8) (k n : Nat) : hB p (at64 k) n = hS (blkOf p k) (shaH p k) n := by
  rw [hB, at64_n, Nat.mul_div_cancel_left _ (by decide)]
theorem wP_is (p : List UInt8) (k i m : Nat) : wP p (at64 k) (natI i) m = wN (blkOf p k) i ++ [(getL ((p.drop (64 * k + 4 * i)).take m) : Int)] := by
  rw [wP, at64_n, Nat.mul_div_cancel_left _ (by decide), natI, Int.toNat_natCast]
theorem nthI_0 {l : List Int} {i : Nat} (h : l.length ≤ i) : nthI l i = 0 := by
  rw [nthI, List.getD_eq_getElem?_getD, List.getElem?_eq_none h]; rfl
theorem wP_0 {p : List UInt8} {k q m : Nat} (hm : m = 0) (i : Nat) : AV.int .u32 (nthI (wN (blkOf p k) q) i) = .int .u32 (nthI (wN (blkOf p k) q ++ [(getL ((p.drop (64 * k + 4 * q)).take m) : Int)]) i) := by
  subst hm
  rw [nthI_app]
  by_cases h : i = (wN (blkOf p k) q).length
  · rw [if_pos h, nthI_0 (by omega)]; rfl
  · rw [if_neg h]
theorem lt_at64 {p : List UInt8} {k : Nat} (h : p.length % 64 = 0) (h1 : ilt (at64 k) (slen p) = true) : 64 * (k + 1) ≤ p.length := by
  have := of_decide_eq_true h1
  unfold at64 slen at this
  omega
theorem wp_idx {p : List UInt8} {k q j : Nat} (hlen : p.length % 64 = 0 ∧ 64 ≤ p.length ∧ p.length ≤ 1000100) (h1 : ilt (at64 k) (slen p) = true) (h2 : q < 16) (h3 : j < 4) :
    inR (wadd .i64 (wadd .i64 (at64 k) (wmul .i64 4 (natI q))) (natI j)) (slen p) = true ∧ wadd .i64 (wadd .i64 (at64 k) (wmul .i64 4 (natI q))) (natI j) = ((64 * k + 4 * q + j : Nat) : Int) := by
  have h := lt_at64 hlen.1 h1
  have e : wadd .i64 (wadd .i64 (at64 k) (wmul .i64 4 (natI q))) (natI j) = ((64 * k + 4 * q + j : Nat) : Int) := by
    rw [(four_n (n := q) (by omega)).1]
    unfold at64 natI
    rw [wadd, w_i64, wadd, w_i64]; omega
  refine ⟨?_, e⟩
  rw [e, inR_t, slen]
  omega
theorem sel_t (x y : Int) : sel1 std true (.int .u32 x) (.int .u32 y) = .int .u32 x := rfl
theorem wP_set {p : List UInt8} {k q j j' : Nat} (hlen : p.length % 64 = 0 ∧ 64 ≤ p.length ∧ p.length ≤ 1000100) (h1 : ilt (at64 k) (slen p) = true) (h2 : q < 16) (h3 : j < 4) (hj : j' = j + 1) (i : Nat) :
    over std q 0 1 [.int .u32 (wadd .u32 (wmul .u32 (nthI (wN (blkOf p k) q ++ [(getL ((p.drop (64 * k + 4 * q)).take j) : Int)]) q) 256) (IntKind.u32.wrap (sidx p (wadd .i64 (wadd .i64 (at64 k) (wmul .i64 4 (natI q))) (natI j)))))]
      (fun i _ => .int .u32 (nthI (wN (blkOf p k) q ++ [(getL ((p.drop (64 * k + 4 * q)).take j) : Int)]) i)) i 0 = .int .u32 (nthI (wN (blkOf p k) q ++ [(getL ((p.drop (64 * k + 4 * q)).take j') : Int)]) i) := by
  subst hj
  have hlt := lt_at64 hlen.1 h1
  have hl := wN_len (blkOf p k) q
  rw [(wp_idx hlen h1 h2 h3).2, sidx, Int.toNat_natCast, over_get, if_pos ⟨Nat.le_refl _, by omega⟩, nthI_app, nthI_app, nthI_app, hl, if_pos rfl]
  by_cases hi : i = q
  · rw [if_pos hi, if_pos hi, hi, beq_same]
    show sel1 std true (AV.int .u32 _) (AV.int .u32 _) = _
    rw [sel_t]
    congr 1
    have hd : j < (p.drop (64 * k + 4 * q)).length := by rw [List.length_drop]; omega
    rw [getL_take _ _ hd]
    have hlt2 := getL_lt ((p.drop (64 * k + 4 * q)).take j)
    rw [List.length_take, Nat.min_eq_left (by omega)] at hlt2
    have h256 : 256 ^ j ≤ 256 ^ 3 := Nat.pow_le_pow_right (by decide) (by omega)
    have e : p.getD (64 * k + 4 * q + j) 0 = (p.drop (64 * k + 4 * q))[j] := by
      rw [List.getElem_drop, List.getD_eq_getElem?_getD, List.getElem?_eq_getElem (by omega)]; rfl
    rw [e]
    have hb := ((p.drop (64 * k + 4 * q))[j]).toNat_lt
    generalize ((p.drop (64 * k + 4 * q))[j]).toNat = b at hb ⊢
    generalize getL ((p.drop (64 * k + 4 * q)).take j) = g at hlt2 ⊢
    rw [wadd, wmul, w_u32, w_u32, w_u32]
    have : (256 : Nat) ^ 3 = 16777216 := rfl
    omega
  · rw [if_neg hi, if_neg hi, beq_no hi]; rfl
theorem wP_4 {p : List UInt8} {k q q' j : Nat} (hlen : p.length % 64 = 0 ∧ 64 ≤ p.length ∧ p.length ≤ 1000100) (h1 : ilt (at64 k) (slen p) = true) (h2 : q < 16) (h3 : j = 4) (hq : q' = q + 1) :
    wN (blkOf p k) q ++ [(getL ((p.drop (64 * k + 4 * q)).take j) : Int)] = wN (blkOf p k) q' := by
  subst h3
  have hlt := lt_at64 hlen.1 h1
  rw [wN_lo hq h2]
  congr 2
  show _ = wordAt (blkOf p k) (natI q)
  rw [wordAt, (four_n (n := q) (by omega)).2, (four_n (n := q) (by omega)).1, ssub, Int.toNat_natCast, Int.toNat_natCast, getZ, w_u32, blkOf]
  have e : (((p.drop (64 * k)).take 64).take (4 * q + 4)).drop (4 * q) = (p.drop (64 * k + 4 * q)).take 4 := by
    rw [List.take_take, Nat.min_eq_left (by omega), List.drop_take, List.drop_drop]
    congr 1
    omega
  rw [e]
  have := getL_lt ((p.drop (64 * k + 4 * q)).take 4)
  have h4 : ((p.drop (64 * k + 4 * q)).take 4).length ≤ 4 := by rw [List.length_take]; exact Nat.min_le_left _ _
  have h5 : 256 ^ ((p.drop (64 * k + 4 * q)).take 4).length ≤ 256 ^ 4 := Nat.pow_le_pow_right (by decide) h4
  have h6 : (256 : Nat) ^ 4 = 4294967296 := rfl
  omega
theorem ro_in {q : Nat} (h : q < 32) : inR (wquo .i64 (natI q) 4) (natI 8) = true := by
  have e : wquo .i64 (natI q) 4 = ((q / 4 : Nat) : Int) := by
    rw [wquo, natI, w_i64, Int.tdiv_eq_ediv_of_nonneg (by omega)]; omega
  rw [e, inR_t]
  unfold natI
  omega
theorem ro_sh {q : Nat} (h : q < 32) : ile 0 (wsub .i64 24 (wmul .i64 8 (Int.tmod (natI q) 4))) = true ∧ wsub .i64 24 (wmul .i64 8 (Int.tmod (natI q) 4)) = ((24 - 8 * (q % 4) : Nat) : Int) := by
  have e : wsub .i64 24 (wmul .i64 8 (Int.tmod (natI q) 4)) = ((24 - 8 * (q % 4) : Nat) : Int) := by
    rw [natI, Int.tmod_eq_emod_of_nonneg (by omega), wsub, wmul, w_i64, w_i64]; omega
  refine ⟨?_, e⟩
  rw [e, ile_t]
  exact Int.natCast_nonneg _
theorem at64_up {k k' : Nat} (h : k' = k + 1) (h2 : 64 * k ≤ 1000100) : wadd .i64 (at64 k) 64 = at64 k' := by
  subst h; unfold at64; rw [wadd, w_i64]; omega
theorem ge_at64 {p : List UInt8} {k : Nat} (h : p.length % 64 = 0) (h1 : ilt (at64 k) (slen p) = false) (hk : k ≤ nbk p) : k = nbk p := by
  have := of_decide_eq_false h1
  unfold at64 slen at this
  unfold nbk at hk ⊢
  omega
theorem step_ref (v : List Int) (k w : Int) (i : Nat) : AV.int .u32 (nthI [wadd .u32 (wadd .u32 (wadd .u32 (wadd .u32 (wadd .u32 (nthI v 7) (bxor .u32 (bxor .u32 (rotrZ (nthI v 4) 6) (rotrZ (nthI v 4) 11)) (rotrZ (nthI v 4) 25))) (bxor .u32 (band .u32 (nthI v 4) (nthI v 5)) (band .u32 (wsub .u32 4294967295 (nthI v 4)) (nthI v 6)))) k) w)
      (wadd .u32 (bxor .u32 (bxor .u32 (rotrZ (nthI v 0) 2) (rotrZ (nthI v 0) 13)) (rotrZ (nthI v 0) 22)) (bxor .u32 (bxor .u32 (band .u32 (nthI v 0) (nthI v 1)) (band .u32 (nthI v 0) (nthI v 2))) (band .u32 (nthI v 1) (nthI v 2)))),
    nthI v 0, nthI v 1, nthI v 2, wadd .u32 (nthI v 3) (wadd .u32 (wadd .u32 (wadd .u32 (wadd .u32 (nthI v 7) (bxor .u32 (bxor .u32 (rotrZ (nthI v 4) 6) (rotrZ (nthI v 4) 11)) (rotrZ (nthI v 4) 25))) (bxor .u32 (band .u32 (nthI v 4) (nthI v 5)) (band .u32 (wsub .u32 4294967295 (nthI v 4)) (nthI v 6)))) k) w),
    nthI v 4, nthI v 5, nthI v 6] i) = .int .u32 (nthI (step8 v k w) i) := by
  rw [step8, stepX, stepY, rotC, rotD, ch_is, maj_is]
def rng32 (l : List Int) : Prop := ∀ i, i < 8 → 0 ≤ nthI l i ∧ nthI l i < 4294967296
theorem shaH_rng (p : List UInt8) : ∀ k, rng32 (shaH p k)
  | 0 => fun i hi => by
    have : ∀ i : _root_.Fin 8, 0 ≤ nthI firstL i.val ∧ nthI firstL i.val < 4294967296 := by decide
    exact this ⟨i, hi⟩
  | k + 1 => fun i hi => by
    show 0 ≤ nthI (hN _ _ 8) i ∧ nthI (hN _ _ 8) i < 4294967296
    rw [hN_at hi, if_pos hi, wadd, w_u32]
    omega
theorem outL_at (m : List Int) : ∀ n q, q < 4 * n → byteAt (outL m n) q = byteAt (putZ (IntKind.u64.wrap (nthI m (q / 4))) 4) (q % 4)
  | n + 1, q, h => by
    have hl := outL_len m n
    rw [outL]
    by_cases hq : q < 4 * n
    · rw [byteAt_l (by omega), outL_at m n q hq]
    · rw [byteAt_r (by omega), hl, show q / 4 = n by omega, show q - 4 * n = q % 4 by omega]
theorem put_at (e : Nat) {j : Nat} (h : j < 4) : byteAt (putZ e 4) j = ((e / 256 ^ (3 - j) % 256 : Nat) : Int) := by
  have hl : j < (putL e 4).length := by rw [putL_length]; exact h
  show (((putL e 4).getD j 0).toNat : Int) = _
  rw [List.getD_eq_getElem?_getD, List.getElem?_eq_getElem hl, Option.getD_some, putL_get _ _ _ hl, UInt8.toNat_ofNat']
theorem shr_at : ∀ j : _root_.Fin 4, min (((24 - 8 * j.val : Nat) : Int).toNat) IntKind.u32.bits = 8 * (3 - j.val) ∧ (2 : Int) ^ (8 * (3 - j.val)) = ((256 ^ (3 - j.val) : Nat) : Int) := by decide
theorem ro_byte {m : List Int} (hr : rng32 m) {q : Nat} (h : q < 32) : IntKind.u8.wrap (wshr .u32 (nthI m (wquo .i64 (natI q) 4).toNat) (wsub .i64 24 (wmul .i64 8 (Int.tmod (natI q) 4)))) = byteAt (outL m 8) q := by
  have e : wquo .i64 (natI q) 4 = ((q / 4 : Nat) : Int) := by
    rw [wquo, natI, w_i64, Int.tdiv_eq_ediv_of_nonneg (by omega)]; omega
  rw [outL_at m 8 q (by omega), e, (ro_sh h).2, Int.toNat_natCast]
  obtain ⟨h1, h2⟩ := hr (q / 4) (by omega)
  obtain ⟨x, hx⟩ := nat_of h1
  rw [hx] at h2 ⊢
  have hj : q % 4 < 4 := Nat.mod_lt _ (by decide)
  generalize q % 4 = j at hj ⊢
  rw [show IntKind.u64.wrap (x : Int) = (x : Int) by rw [w_u64]; omega, put_at x hj, wshr]
  obtain ⟨e1, e2⟩ := shr_at ⟨j, hj⟩
  simp only at e1 e2
  rw [e1, e2, Int.fdiv_eq_ediv_of_nonneg _ (Int.natCast_nonneg _), ← Int.natCast_ediv, w_u8]
  rfl
theorem ro_set {m : List Int} (hr : rng32 m) {q q' : Nat} (hq : q' = q + 1) (h : q < 32) (i : Nat) : over std q 0 1 [.int .u8 (IntKind.u8.wrap (wshr .u32 (nthI m (wquo .i64 (natI q) 4).toNat) (wsub .i64 24 (wmul .i64 8 (Int.tmod (natI q) 4)))))] (fun i _ => .int .u8 (byteAt (rOut m q) i)) i 0 = .int .u8 (byteAt (rOut m q') i) := by
  subst hq
  have hl := outL_len m 8
  rw [ro_byte hr h, over_get, if_pos ⟨Nat.le_refl _, by omega⟩]
  by_cases hi : i = q
  · rw [hi, beq_same]
    show AV.int .u8 (byteAt (outL m 8) q) = _
    rw [rOut, byteAt, byteAt, List.getD_eq_getElem?_getD, List.getD_eq_getElem?_getD, List.getElem?_take_of_lt (by omega)]
  · rw [beq_no hi]
    show AV.int .u8 (byteAt (rOut m q) i) = _
    rw [rOut, rOut, byteAt, byteAt, List.getD_eq_getElem?_getD, List.getD_eq_getElem?_getD]
    by_cases hlt : i < q
    · rw [List.getElem?_take_of_lt hlt, List.getElem?_take_of_lt (by omega)]
    · rw [List.getElem?_eq_none (by rw [List.length_take]; omega), List.getElem?_eq_none (by rw [List.length_take]; omega)]
set_option maxHeartbeats 1000000 in
theorem reft_good : Good Try.prog (reft_s std) := by
  intro xs p r h hp
  dsimp only [reft_s] at h ⊢
  split at h <;> cases h
  try simp only [L2, L3, std] at hp ⊢
  rename_i s
  have hl : s.length ≤ 1000000 := hp
  obtain ⟨p, hpp⟩ : ∃ p, p = padZ s := ⟨_, rfl⟩
  obtain ⟨m, hm⟩ : ∃ m, m = shaH p (nbk p) := ⟨_, rfl⟩
  have hlen : p.length % 64 = 0 ∧ 64 ≤ p.length ∧ p.length ≤ 1000100 := by
    rw [hpp]
    have h1 := padZ_len s
    have h2 := padN_lt s
    exact ⟨h1.1, h1.2.1, by omega⟩
  refine acalls_L (T := tt) (S := fun L => sumOf [pad_s L, K_s L, rotr_s L]) (lo := fun L => rtA L p m) (lb := noA) 5 (fn := Try.f31) rfl rfl (by kernel_rfl) (by kernel_rfl) rfl tt_ok (sumOf_ok ⟨pad_good, K_good, rotr_good, trivial⟩) (by kernel_rfl) ?_
  obtain ⟨n0, hn0⟩ : ∃ n : Nat, n = 0 := ⟨_, rfl⟩
  obtain ⟨n1, hn1⟩ : ∃ n : Nat, n = 16 := ⟨_, rfl⟩
  intro L P' Q' hL hP hQ
  (cbv; try simp only [sat_need, sat_must, sat_ite, sat_done, sat_yes, sat_ex, sat_all, sat_sup, sat_and, sat_fail, true_and, and_true])
  refine ⟨?_, ⟨n0, ?_⟩, fun k hk => ?_⟩
  · subst hL; exact hl
  · (cbv; try simp only [sat_need, sat_must, sat_ite, sat_done, sat_yes, sat_ex, sat_all, sat_sup, sat_and, sat_fail, true_and, and_true])
    subst hL; subst hQ
    refine ⟨fun i j hi hj => ?_, fun _ _ _ _ => trivial, hpp.symm, ?_, ?_⟩
    · subst hn0; rfl
    · subst hn0; rfl
    · subst hn0; exact Nat.zero_le _
  obtain ⟨k', hk'⟩ : ∃ k' : Nat, k' = k + 1 := ⟨_, rfl⟩
  (cbv; try simp only [sat_need, sat_must, sat_ite, sat_done, sat_yes, sat_ex, sat_all, sat_sup, sat_and, sat_fail, true_and, and_true])
  refine ⟨fun h1 => ⟨?_, ⟨n0, ?_⟩, fun q hq => ?_⟩, fun h1 => ⟨?_, ⟨n0, ?_⟩, fun q hq => ?_⟩⟩
  · subst hL; rfl
  · (cbv; try simp only [sat_need, sat_must, sat_ite, sat_done, sat_yes, sat_ex, sat_all, sat_sup, sat_and, sat_fail, true_and, and_true])
    subst hL; subst hQ
    refine ⟨fun _ _ _ _ => trivial, ⟨rfl, fun i j hi hj => ?_⟩, fun _ _ _ _ => trivial, ?_, ?_⟩
    · have : j = 0 := by omega
      subst this; subst hn0; rfl
    · subst hn0; rfl
    · subst hn0; exact Nat.zero_le _
  · obtain ⟨q', hq'⟩ : ∃ q' : Nat, q' = q + 1 := ⟨_, rfl⟩
    (cbv; try simp only [sat_need, sat_must, sat_ite, sat_done, sat_yes, sat_ex, sat_all, sat_sup, sat_and, sat_fail, true_and, and_true])
    refine ⟨fun h2 => ⟨⟨n0, ?_⟩, fun j hj => ?_⟩, fun h2 => ⟨⟨n1, ?_⟩, fun u hu => ?_⟩⟩
    · (cbv; try simp only [sat_need, sat_must, sat_ite, sat_done, sat_yes, sat_ex, sat_all, sat_sup, sat_and, sat_fail, true_and, and_true])
      subst hL; subst hQ
      refine ⟨fun _ _ _ _ => trivial, fun i j hi hj => ?_, fun _ _ _ _ => trivial, ?_, ?_⟩
      · simp only [L2, L3, std, wB_is, wP_is]
        exact wP_0 hn0 i
      · subst hn0; rfl
      · subst hn0; exact Nat.zero_le _
    · obtain ⟨j', hj'⟩ : ∃ j' : Nat, j' = j + 1 := ⟨_, rfl⟩
      (cbv; try simp only [sat_need, sat_must, sat_ite, sat_done, sat_yes, sat_ex, sat_all, sat_sup, sat_and, sat_fail, true_and, and_true])
      refine ⟨fun h3 => ⟨?_, ?_, ?_, j', ?_⟩, fun h3 => ⟨q', ?_⟩⟩
      · subst hL; exact inR_nat (Nat.lt_of_lt_of_le (lt_of_ilt h2) (by decide))
      · subst hL; exact (wp_idx hlen h1 (lt_of_ilt h2) (lt_of_ilt h3)).1
      · subst hL; exact inR_nat (Nat.lt_of_lt_of_le (lt_of_ilt h2) (by decide))
      · (cbv; try simp only [sat_need, sat_must, sat_ite, sat_done, sat_yes, sat_ex, sat_all, sat_sup, sat_and, sat_fail, true_and, and_true])
        subst hL; subst hQ
        have h4 : j < 4 := lt_of_ilt h3
        refine ⟨fun _ _ _ _ => trivial, fun i t hi ht => ?_, fun _ _ _ _ => trivial, ?_, ?_, ?_⟩
        · have : t = 0 := by omega
          subst this
          have ek : (natI q).toNat = q := Int.toNat_natCast q
          simp only [L2, L3, std, wP_is, ek, Nat.add_eq, Nat.zero_add]
          exact wP_set hlen h1 (lt_of_ilt h2) h4 hj' i
        · exact natI_up hj' (by omega)
        · show j' ≤ 4
          omega
        · show 4 - j' + 1 ≤ 4 - j
          omega
      · (cbv; try simp only [sat_need, sat_must, sat_ite, sat_done, sat_yes, sat_ex, sat_all, sat_sup, sat_and, sat_fail, true_and, and_true])
        subst hL; subst hQ
        have h4 : j = 4 := by
          have h5 : ¬ j < 4 := ge_of_ilt h3
          have hj : j ≤ 4 := hj
          omega
        have h16 : q < 16 := lt_of_ilt h2
        refine ⟨fun _ _ _ _ => trivial, fun i t hi ht => ?_, fun _ _ _ _ => trivial, ?_, ?_, ?_⟩
        · simp only [L2, L3, std, wP_is, wB_is]
          rw [wP_4 hlen h1 h16 h4 hq']
        · exact natI_up hq' (by omega)
        · show q' ≤ 16
          omega
        · show 16 - q' + 1 ≤ 16 - q
          omega
    · (cbv; try simp only [sat_need, sat_must, sat_ite, sat_done, sat_yes, sat_ex, sat_all, sat_sup, sat_and, sat_fail, true_and, and_true])
      subst hL; subst hQ
      have h16 : q = n1 := by
        have h5 : ¬ q < 16 := ge_of_ilt h2
        have hq : q ≤ 16 := hq
        omega
      subst h16
      refine ⟨fun _ _ _ _ => trivial, fun _ _ _ _ => rfl, fun _ _ _ _ => trivial, ?_, ?_⟩
      · subst hn1; rfl
      · subst hn1; exact ⟨Nat.le_refl _, by decide⟩
    clear h2 hq hq' q' q
    obtain ⟨u', hu'⟩ : ∃ u' : Nat, u' = u + 1 := ⟨_, rfl⟩
    (cbv; try simp only [sat_need, sat_must, sat_ite, sat_done, sat_yes, sat_ex, sat_all, sat_sup, sat_and, sat_fail, true_and, and_true])
    refine ⟨fun h2 => ⟨?_, ?_, ?_, ?_, ?_, ?_, ?_, ?_, ?_, ?_, ?_, ?_, ?_, ?_, ?_, u', ?_⟩, fun h2 => ⟨?_, ?_, ?_, ?_, ?_, ?_, ?_, ?_, ⟨n0, ?_⟩, fun r hr => ?_⟩⟩
    · subst hL; exact inR_sub (k := 15) rfl (Nat.le_trans (by decide) hu.1) (lt_of_ilt h2)
    · subst hL; exact show (0 : Int) ≤ 7 ∧ (7 : Int) ≤ 32 by decide
    · subst hL; exact inR_sub (k := 15) rfl (Nat.le_trans (by decide) hu.1) (lt_of_ilt h2)
    · subst hL; exact show (0 : Int) ≤ 18 ∧ (18 : Int) ≤ 32 by decide
    · subst hL; exact inR_sub (k := 15) rfl (Nat.le_trans (by decide) hu.1) (lt_of_ilt h2)
    · subst hL; rfl
    · subst hL; exact inR_sub (k := 2) rfl (Nat.le_trans (by decide) hu.1) (lt_of_ilt h2)
    · subst hL; exact show (0 : Int) ≤ 17 ∧ (17 : Int) ≤ 32 by decide
    · subst hL; exact inR_sub (k := 2) rfl (Nat.le_trans (by decide) hu.1) (lt_of_ilt h2)
    · subst hL; exact show (0 : Int) ≤ 19 ∧ (19 : Int) ≤ 32 by decide
    · subst hL; exact inR_sub (k := 2) rfl (Nat.le_trans (by decide) hu.1) (lt_of_ilt h2)
    · subst hL; rfl
    · subst hL; exact inR_sub (k := 16) rfl (Nat.le_trans (by decide) hu.1) (lt_of_ilt h2)
    · subst hL; exact inR_sub (k := 7) rfl (Nat.le_trans (by decide) hu.1) (lt_of_ilt h2)
    · subst hL; exact inR_nat (lt_of_ilt h2)
    · (cbv; try simp only [sat_need, sat_must, sat_ite, sat_done, sat_yes, sat_ex, sat_all, sat_sup, sat_and, sat_fail, true_and, and_true])
      subst hL; subst hQ
      have h64 : u < 64 := lt_of_ilt h2
      have h16 : 16 ≤ u := hu.1
      refine ⟨fun _ _ _ _ => trivial, fun i t hi ht => ?_, fun _ _ _ _ => trivial, ?_, ?_, ?_⟩
      · have : t = 0 := by omega
        subst this
        have ek : (natI u).toNat = u := Int.toNat_natCast u
        simp only [L2, L3, std, wB_is, ek, Nat.add_eq, Nat.zero_add, natI_dn (n := u) (k := 16) (c := 16) rfl h16 (by omega), natI_dn (n := u) (k := 15) (c := 15) rfl (by omega) (by omega), natI_dn (n := u) (k := 7) (c := 7) rfl (by omega) (by omega), natI_dn (n := u) (k := 2) (c := 2) rfl (by omega) (by omega)]
        rw [wN_hi hu' (by omega), nextW, rotA, rotB]
        exact app_row _ (wN_len _ u) i
      · exact natI_up hu' (by omega)
      · exact ⟨by omega, by omega⟩
      · show 64 - u' + 1 ≤ 64 - u
        omega
    · subst hL; rfl
    · subst hL; rfl
    · subst hL; rfl
    · subst hL; rfl
    · subst hL; rfl
    · subst hL; rfl
    · subst hL; rfl
    · subst hL; rfl
    · (cbv; try simp only [sat_need, sat_must, sat_ite, sat_done, sat_yes, sat_ex, sat_all, sat_sup, sat_and, sat_fail, true_and, and_true])
      subst hL; subst hQ
      refine ⟨fun _ _ _ _ => trivial, fun _ _ _ _ => trivial, fun i t hi ht => ?_, fun _ _ _ _ => trivial, ?_, ?_⟩
      · simp only [L2, L3, std, vB_is]
        subst hn0
        show AV.int .u32 (nthI [nthI (shaH p k) 0, nthI (shaH p k) 1, nthI (shaH p k) 2, nthI (shaH p k) 3, nthI (shaH p k) 4, nthI (shaH p k) 5, nthI (shaH p k) 6, nthI (shaH p k) 7] i) = _
        rw [eight (shaH_len p k)]; rfl
      · subst hn0; rfl
      · subst hn0; exact Nat.zero_le _
    have hu64 : u = 64 := by
      subst hL
      have : ¬ u < 64 := ge_of_ilt h2
      have : u ≤ 64 := hu.2
      omega
    subst hu64
    clear h2 hu hu' u'
    obtain ⟨r', hr'⟩ : ∃ r' : Nat, r' = r + 1 := ⟨_, rfl⟩
    (cbv; try simp only [sat_need, sat_must, sat_ite, sat_done, sat_yes, sat_ex, sat_all, sat_sup, sat_and, sat_fail, true_and, and_true])
    refine ⟨fun h3 => ?_, fun h3 => ⟨⟨n0, ?_⟩, fun t ht => ?_⟩⟩
    · iterate 32 refine ⟨by first | (subst hL; rfl) | (subst hL; exact le32 (by decide)) | (subst hL; exact inR_nat (lt_of_ilt h3)), ?_⟩
      refine ⟨r', ?_⟩
      (cbv; try simp only [sat_need, sat_must, sat_ite, sat_done, sat_yes, sat_ex, sat_all, sat_sup, sat_and, sat_fail, true_and, and_true])
      subst hL; subst hQ
      have h64 : r < 64 := lt_of_ilt h3
      refine ⟨fun _ _ _ _ => trivial, fun _ _ _ _ => trivial, fun i x hi hx => ?_, fun _ _ _ _ => trivial, ?_, ?_, ?_⟩
      · have ek : (natI r).toNat = r := Int.toNat_natCast r
        simp only [L2, L3, std, vB_is, wB_is, ek, Nat.add_eq, Nat.zero_add]
        rw [vS_up hr']
        generalize vS (blkOf p k) (shaH p k) r = v
        generalize wN (blkOf p k) 64 = w
        exact step_ref v (nthI keysL r) (nthI w r) i
      · exact natI_up hr' (by omega)
      · show r' ≤ 64
        omega
      · show 64 - r' + 1 ≤ 64 - r
        omega
    · (cbv; try simp only [sat_need, sat_must, sat_ite, sat_done, sat_yes, sat_ex, sat_all, sat_sup, sat_and, sat_fail, true_and, and_true])
      subst hL; subst hQ
      have hr64 : r = 64 := by
        have : ¬ r < 64 := ge_of_ilt h3
        have : r ≤ 64 := hr
        omega
      subst hr64
      refine ⟨fun _ _ _ _ => trivial, fun i x hi hx => ?_, fun _ _ _ _ => trivial, ?_, ?_⟩
      · simp only [L2, L3, std, hB_is]
        exact hN_0 hn0 hi
      · subst hn0; rfl
      · subst hn0; exact Nat.zero_le _
    have hr64 : r = 64 := by
      subst hL
      have : ¬ r < 64 := ge_of_ilt h3
      have : r ≤ 64 := hr
      omega
    subst hr64
    clear h3 hr hr' r'
    obtain ⟨t', ht'⟩ : ∃ t' : Nat, t' = t + 1 := ⟨_, rfl⟩
    (cbv; try simp only [sat_need, sat_must, sat_ite, sat_done, sat_yes, sat_ex, sat_all, sat_sup, sat_and, sat_fail, true_and, and_true])
    refine ⟨fun h3 => ⟨?_, ?_, ?_, t', ?_⟩, fun h3 => ⟨k', ?_⟩⟩
    · subst hL; exact inR_nat (lt_of_ilt h3)
    · subst hL; exact inR_nat (lt_of_ilt h3)
    · subst hL; exact inR_nat (lt_of_ilt h3)
    · (cbv; try simp only [sat_need, sat_must, sat_ite, sat_done, sat_yes, sat_ex, sat_all, sat_sup, sat_and, sat_fail, true_and, and_true])
      subst hL; subst hQ
      have h8 : t < 8 := lt_of_ilt h3
      refine ⟨fun _ _ _ _ => trivial, fun i x hi hx => ?_, fun _ _ _ _ => trivial, ?_, ?_, ?_⟩
      · have : x = 0 := by omega
        subst this
        have ek : (natI t).toNat = t := Int.toNat_natCast t
        simp only [L2, L3, std, hB_is, vB_is, ek, Nat.add_eq, Nat.zero_add, hS]
        exact hN_set ht' h8 hi
      · exact natI_up ht' (by omega)
      · show t' ≤ 8
        omega
      · show 8 - t' + 1 ≤ 8 - t
        omega
    · (cbv; try simp only [sat_need, sat_must, sat_ite, sat_done, sat_yes, sat_ex, sat_all, sat_sup, sat_and, sat_fail, true_and, and_true])
      subst hL; subst hQ
      have ht8 : t = 8 := by
        have : ¬ t < 8 := ge_of_ilt h3
        have : t ≤ 8 := ht
        omega
      subst ht8
      have hlt := lt_at64 hlen.1 h1
      refine ⟨fun i x hi hx => ?_, fun _ _ _ _ => trivial, ?_, ?_, ?_⟩
      · simp only [L2, L3, std, hB_is]
        subst hk'; rfl
      · exact at64_up hk' (by omega)
      · show k' ≤ p.length / 64
        omega
      · show p.length / 64 - k' + 1 ≤ p.length / 64 - k
        omega
  · subst hL; rfl
  · (cbv; try simp only [sat_need, sat_must, sat_ite, sat_done, sat_yes, sat_ex, sat_all, sat_sup, sat_and, sat_fail, true_and, and_true])
    subst hL; subst hQ
    refine ⟨fun _ _ _ _ => trivial, ⟨rfl, fun i j hi hj => ?_⟩, ?_, ?_⟩
    · have : j = 0 := by omega
      subst this; subst hn0; rfl
    · subst hn0; rfl
    · subst hn0; exact Nat.zero_le _
  · obtain ⟨q', hq'⟩ : ∃ q' : Nat, q' = q + 1 := ⟨_, rfl⟩
    (cbv; try simp only [sat_need, sat_must, sat_ite, sat_done, sat_yes, sat_ex, sat_all, sat_sup, sat_and, sat_fail, true_and, and_true])
    refine ⟨fun h2 => ⟨?_, ?_, ?_, ?_, ?_, q', ?_⟩, fun h2 => ⟨⟨?_, ?_⟩, ?_⟩⟩
    · subst hL; rfl
    · subst hL; exact ro_in (lt_of_ilt h2)
    · subst hL; rfl
    · subst hL; exact (ro_sh (lt_of_ilt h2)).1
    · subst hL; exact inR_nat (lt_of_ilt h2)
    · (cbv; try simp only [sat_need, sat_must, sat_ite, sat_done, sat_yes, sat_ex, sat_all, sat_sup, sat_and, sat_fail, true_and, and_true])
      subst hL; subst hQ
      have h32 : q < 32 := lt_of_ilt h2
      have hkn := ge_at64 hlen.1 h1 hk
      refine ⟨fun _ _ _ _ => trivial, fun i x hi hx => ?_, ?_, ?_, ?_⟩
      · have : x = 0 := by omega
        subst this
        rw [← hkn] at hm
        have ek : (natI q).toNat = q := Int.toNat_natCast q
        simp only [L2, L3, std, ek, Nat.add_eq, Nat.zero_add]
        rw [← hm]
        exact ro_set (by rw [hm]; exact shaH_rng p k) hq' h32 i
      · exact natI_up hq' (by omega)
      · show q' ≤ 32
        omega
      · show 32 - q' + 1 ≤ 32 - q
        omega
    · subst hL; exact show 0 + 32 ≤ 32 by decide
    · intro i hi; exact ⟨_, rfl⟩
    · subst hL; subst hQ
      have hq32 : q = 32 := by
        have : ¬ q < 32 := ge_of_ilt h2
        have : q ≤ 32 := hq
        omega
      subst hq32
      rw [fits_str]
      have e : rOut m 32 = prtZ s := by
        rw [rOut, List.take_of_length_le (by rw [outL_len]; decide), prtZ, ← hpp, hm]; rfl
      have := bytesOf_at (prtZ s)
      rw [prtZ_len] at this
      simp only [L2, std, Nat.zero_add]
      rw [e]
      exact this
end Sy
end Go.Proofs.Ythlggigjnpldcaa
