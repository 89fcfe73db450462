/- Chapter 8 (frame), plain: what a frame's text begins with. -/
import Derived.Test.YthlggigjnpldcaaAcF
namespace Go.Proofs.Ythlggigjnpldcaa
namespace Sy
open Go Go.RowKit

theorem putL_snoc : ∀ (c n : Nat), putL n (c + 1) = putL (n / 256) c ++ [UInt8.ofNat n]
  | 0, n => by simp [putL]
  | c + 1, n => by
    rw [putL, putL_snoc c n]
    show _ = (UInt8.ofNat (n / 256 / 256 ^ c) :: putL (n / 256) c) ++ _
    rw [Nat.div_div_eq_div_mul, ← Nat.pow_succ']
    rfl
theorem getL_putL : ∀ (c n : Nat), n < 256 ^ c → getL (putL n c) = n
  | 0, n, h => by simp at h; subst h; rfl
  | c + 1, n, h => by
    rw [putL_snoc, getL_snoc, getL_putL c (n / 256) (by rw [Nat.pow_succ] at h; omega), UInt8.toNat_ofNat']
    omega
theorem putL_getL (l : List UInt8) : putL (getL l) l.length = l := by
  have key : ∀ m (l : List UInt8), l.length = m → putL (getL l) m = l := by
    intro m
    induction m with
    | zero => intro l hl; rw [List.length_eq_zero_iff.1 hl]; rfl
    | succ m ih =>
      intro l hl
      have hne : l ≠ [] := by intro h; simp [h] at hl
      have e : l = l.dropLast ++ [l.getLast hne] := (List.dropLast_concat_getLast hne).symm
      have hd : l.dropLast.length = m := by simp [hl]
      generalize l.getLast hne = x at e
      generalize l.dropLast = y at e hd
      subst e
      have hx : x.toNat < 256 := x.toNat_lt
      rw [putL_snoc, getL_snoc, show (getL y * 256 + x.toNat) / 256 = getL y by omega, ih y hd]
      congr 2
      apply UInt8.toNat_inj.1
      rw [UInt8.toNat_ofNat']; omega
  exact key _ l rfl
theorem take_app {α : Type} (a b : List α) (n : Nat) (h : a.length = n) : (a ++ b).take n = a := by subst h; simp
theorem drop_app {α : Type} (a b : List α) (n : Nat) (h : a.length = n) : (a ++ b).drop n = b := by subst h; simp


def nxN (s : List UInt8) : Int := getZ ((s.take 16).drop 12)
def nxE (s : List UInt8) : Int := if s.length < 20 then 3 else if s.take 3 ≠ [79, 70, 1] then 4 else if (s.getD 3 0).toNat = 0 then 10 else if 8192 < nxN s then 5 else if (s.length : Int) < nxN s + 20 then 3 else chkE (s.take (nxN s + 20).toNat)
def nxK (s : List UInt8) : Int := if nxE s = 0 then (s.getD 3 0).toNat else 0
def nxP (s : List UInt8) : Int := if nxE s = 0 then getZ ((s.take 12).drop 4) else 0
def nxB (s : List UInt8) : List UInt8 := if nxE s = 0 then (s.take (nxN s + 16).toNat).drop 16 else []
def nxR (s : List UInt8) : List UInt8 := if nxE s = 0 then s.drop (nxN s + 20).toNat else []

theorem nxN_bound (s : List UInt8) : 0 ≤ nxN s ∧ nxN s < 4294967296 := by
  have h := getL_lt ((s.take 16).drop 12)
  have h' : 256 ^ ((s.take 16).drop 12).length ≤ 256 ^ 4 := Nat.pow_le_pow_right (by omega) (by simp; omega)
  unfold nxN getZ; omega
theorem nxP_bound (s : List UInt8) : 0 ≤ getZ ((s.take 12).drop 4) ∧ getZ ((s.take 12).drop 4) < 18446744073709551616 := by
  have h := getL_lt ((s.take 12).drop 4)
  have h' : 256 ^ ((s.take 12).drop 4).length ≤ 256 ^ 8 := Nat.pow_le_pow_right (by omega) (by simp; omega)
  unfold getZ; omega
theorem nx_bad (s : List UInt8) (he : nxE s ≠ 0) : nxK s = 0 ∧ nxP s = 0 ∧ nxB s = [] ∧ nxR s = [] := by simp [nxK, nxP, nxB, nxR, he]
theorem headT_length (k e : Int) (b : List UInt8) : (headT k e b).length = b.length + 16 := by
  simp [headT, putZ_len, cl8]; omega
/-- The head that a text has is the head of what it holds. -/
theorem head_is (s : List UInt8) (h20 : 20 ≤ s.length) (hp : s.take 3 = [79, 70, 1]) (hl : nxN s + 20 ≤ s.length) :
    headT (s.getD 3 0).toNat (getZ ((s.take 12).drop 4)) ((s.take (nxN s + 16).toNat).drop 16) = s.take (nxN s + 16).toNat := by
  obtain ⟨h0, h1⟩ := nxN_bound s
  obtain ⟨n, hn⟩ : ∃ n : Nat, nxN s = n := ⟨(nxN s).toNat, by omega⟩
  have hn' : getL ((s.take 16).drop 12) = n := by
    have := hn; unfold nxN getZ at this; omega
  rw [hn] at hl ⊢
  rw [show ((n : Int) + 16).toNat = n + 16 by omega]
  have hb : ((s.take (n + 16)).drop 16).length = n := by simp; omega
  have h8 : ((s.take 12).drop 4).length = 8 := by simp; omega
  have h4 : ((s.take 16).drop 12).length = 4 := by simp; omega
  have e8 := putL_getL ((s.take 12).drop 4)
  have e4 := putL_getL ((s.take 16).drop 12)
  rw [h8] at e8
  rw [h4, hn'] at e4
  have e1 : (s.drop 3).take 1 = [s.getD 3 0] := by
    have h3 : 3 < s.length := by omega
    rw [List.drop_eq_getElem_cons h3]
    show [s[3]] = _
    simp [h3]
  have eh : headT (s.getD 3 0).toNat (getZ ((s.take 12).drop 4)) ((s.take (n + 16)).drop 16) = [79, 70, 1] ++ ([s.getD 3 0] ++ ((s.take 12).drop 4 ++ ((s.take 16).drop 12 ++ (s.take (n + 16)).drop 16))) := by
    have z8 : putZ (getZ ((s.take 12).drop 4)) 8 = (s.take 12).drop 4 := e8
    have z4 : putZ (n : Int) 4 = (s.take 16).drop 12 := e4
    rw [headT, hb, z8, z4]
    simp only [Int.toNat_natCast, UInt8.ofNat_toNat, List.append_assoc]
  have d1 : (s.take 12).drop 4 = (s.drop 4).take 8 := by rw [List.drop_take]
  have d2 : (s.take 16).drop 12 = (s.drop 12).take 4 := by rw [List.drop_take]
  have d3 : (s.take (n + 16)).drop 16 = (s.drop 16).take n := by rw [List.drop_take]; congr 1
  rw [eh, d1, d2, d3, show n + 16 = 3 + (1 + (8 + (4 + n))) by omega, List.take_add, List.take_add, List.take_add, List.take_add, List.drop_drop, List.drop_drop, List.drop_drop, hp]
  rw [e1]
structure FrameIs (t : List UInt8) (k e : Int) (b r : List UInt8) : Prop where
  E : nxE t = 0
  K : nxK t = k
  P : nxP t = e
  B : nxB t = b
  R : nxR t = r
  N : nxN t = b.length
  len : t.length = b.length + 20 + r.length
theorem byE_ok {k : Int} {b : List UInt8} (h : byE k b = 0) : 1 ≤ k ∧ k ≤ 255 ∧ b.length ≤ 8192 := by
  unfold byE at h
  split at h
  · omega
  · split at h <;> omega
/-- What begins with a frame's text begins with that frame. -/
theorem frame_is (k e : Int) (b r : List UInt8) (hE : byE k b = 0) (h0 : 0 ≤ e) (h1 : e < 18446744073709551616) : FrameIs (byT k e b ++ r) k e b r := by
  obtain ⟨k1, k2, hb⟩ := byE_ok hE
  obtain ⟨p, hp⟩ : ∃ p, p = putZ e 8 := ⟨_, rfl⟩
  obtain ⟨q, hq⟩ : ∃ q, q = putZ b.length 4 := ⟨_, rfl⟩
  have hpl : p.length = 8 := by rw [hp, putZ_len]; rfl
  have hql : q.length = 4 := by rw [hq, putZ_len]; rfl
  have ep : getZ p = e := by
    rw [hp]; unfold getZ putZ
    rw [show cl8 8 = 8 from rfl, getL_putL 8 _ (by omega)]; omega
  have eq' : getZ q = b.length := by
    rw [hq]; unfold getZ putZ
    rw [show cl8 4 = 4 from rfl, Int.toNat_natCast, getL_putL 4 _ (by omega)]
  obtain ⟨z, hz⟩ : ∃ z, z = le4 (crcL (headT k e b)) := ⟨_, rfl⟩
  have hzl : z.length = 4 := by rw [hz]; rfl
  have hT : byT k e b = headT k e b ++ z := by rw [byT, if_pos hE, markL, hz]
  have hh : headT k e b = 79 :: 70 :: 1 :: UInt8.ofNat k.toNat :: (p ++ (q ++ b)) := by rw [headT, hp, hq]; simp
  have hl16 := headT_length k e b
  have hs : byT k e b ++ r = 79 :: 70 :: 1 :: UInt8.ofNat k.toNat :: (p ++ (q ++ (b ++ (z ++ r)))) := by
    rw [hT, hh]; simp
  have hlen : (byT k e b ++ r).length = b.length + 20 + r.length := by rw [hT]; simp only [List.length_append, hl16, hzl]
  generalize ht : byT k e b ++ r = t at hs hlen
  have tN : nxN t = b.length := by
    rw [nxN, List.drop_take, hs]
    show getZ ((List.drop 8 (p ++ (q ++ (b ++ (z ++ r))))).take 4) = _
    rw [drop_app p _ 8 hpl, take_app q _ 4 hql, eq']
  have t3 : t.take 3 = [79, 70, 1] := by rw [hs]; rfl
  have tk : ((t.getD 3 0).toNat : Int) = k := by
    rw [hs]
    show ((UInt8.ofNat k.toNat).toNat : Int) = k
    rw [UInt8.toNat_ofNat']; omega
  have t16 : t.take (b.length + 16) = headT k e b := by rw [← ht, hT, List.append_assoc]; exact take_app _ _ _ hl16
  have t20 : t.take (b.length + 20) = headT k e b ++ z := by rw [← ht, hT]; exact take_app _ _ _ (by simp only [List.length_append, hl16, hzl])
  have d20 : t.drop (b.length + 20) = r := by rw [← ht, hT]; exact drop_app _ _ _ (by simp only [List.length_append, hl16, hzl])
  have hc : chkE (t.take (nxN t + 20).toNat) = 0 := by
    rw [tN, show ((b.length : Int) + 20).toNat = b.length + 20 by omega, t20, chkE, if_neg (by simp only [List.length_append, hl16, hzl]; omega), take_app _ _ _ (by simp only [List.length_append, hl16, hzl]; omega), if_pos]
    rw [markL, hz]
  have hE0 : nxE t = 0 := by
    have nc : nxE t = if t.length < 20 then 3 else if t.take 3 ≠ [79, 70, 1] then 4 else if (t.getD 3 0).toNat = 0 then 10 else if 8192 < nxN t then 5 else if (t.length : Int) < nxN t + 20 then 3 else chkE (t.take (nxN t + 20).toNat) := rfl
    rw [nc, if_neg (by omega), if_neg (by rw [t3]; simp), if_neg (by omega), if_neg (by omega), if_neg (by omega), hc]
  refine ⟨hE0, by rw [nxK, if_pos hE0, tk], ?_, ?_, ?_, tN, hlen⟩
  · rw [nxP, if_pos hE0, List.drop_take, hs]
    show getZ ((p ++ (q ++ (b ++ (z ++ r)))).take 8) = _
    rw [take_app p _ 8 hpl, ep]
  · rw [nxB, if_pos hE0, tN, show ((b.length : Int) + 16).toNat = b.length + 16 by omega, t16, hh]
    show List.drop 12 (p ++ (q ++ b)) = b
    rw [show p ++ (q ++ b) = (p ++ q) ++ b by simp, drop_app (p ++ q) _ 12 (by simp [hpl, hql])]
  · rw [nxR, if_pos hE0, tN, show ((b.length : Int) + 20).toNat = b.length + 20 by omega, d20]
/-- Where Next finds one, the text is long enough. -/
theorem nx_len (s : List UInt8) (h : nxE s = 0) : nxN s + 20 ≤ s.length ∧ nxN s ≤ 8192 := by
  have nc : nxE s = if s.length < 20 then 3 else if s.take 3 ≠ [79, 70, 1] then 4 else if (s.getD 3 0).toNat = 0 then 10 else if 8192 < nxN s then 5 else if (s.length : Int) < nxN s + 20 then 3 else chkE (s.take (nxN s + 20).toNat) := rfl
  rw [nc] at h
  repeat' split at h
  all_goals omega
end Sy
end Go.Proofs.Ythlggigjnpldcaa
