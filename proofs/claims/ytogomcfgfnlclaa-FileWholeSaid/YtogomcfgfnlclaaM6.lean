/-Chapter 6 (digest): mix, what a block makes of the words. Chapter 6 (digest): Sum, Text, Print. Chapter 6 (digest): the document's sum. Chapter 6 (digest): the document's Print, the example; and what stands between these and the texts behind.-/
import Derived.Test.YtogomcfgfnlclaaM5
namespace Go.Proofs.Ytogomcfgfnlclaa
namespace Sy
open Go Go.RowKit
set_option maxRecDepth 100000
set_option linter.unusedSimpArgs false
set_option linter.unusedVariables false
def zyc (s : List UInt8) (n : Int) : Int := IntKind.u32.wrap (getZ (yn9 s (zjz .i64 4 n) (zco .i64 (zjz .i64 4 n) 4)))
def yg1 (l : List Int) (n : Nat) : Int := zco .u32 (zco .u32 (zco .u32 (zaa l (n - 16)) (yog (zaa l (n - 15), 7, 18, 3, true))) (zaa l (n - 7))) (yog (zaa l (n - 2), 17, 19, 10, true))
def wN (s : List UInt8) : Nat -> List Int
 | 0 => []
 | n + 1 => wN s n ++ [if n < 16 then zyc s n else yg1 (wN s n) n]
def zyw (v : List Int) (k w : Int) : Int := zco .u32 (zco .u32 (zco .u32 (zco .u32 (zaa v 7) (yog (zaa v 4, 6, 11, 25, false))) (bor .u32 (zxs .u32 (zaa v 4) (zaa v 5)) (zxs .u32 (yhr .u32 4294967295 (zaa v 4)) (zaa v 6)))) k) w
def yjn (v : List Int) : Int := zco .u32 (yog (zaa v 0, 2, 13, 22, false)) (bor .u32 (zxs .u32 (zaa v 0) (zaa v 1)) (zxs .u32 (zaa v 2) (bor .u32 (zaa v 0) (zaa v 1))))
def yf0 (v : List Int) (k w : Int) : List Int :=
 [zco .u32 (zyw v k w) (yjn v), zaa v 0, zaa v 1, zaa v 2, zco .u32 (zaa v 3) (zyw v k w), zaa v 4, zaa v 5, zaa v 6]
def vN (w h : List Int) : Nat -> List Int
 | 0 => h
 | n + 1 => yf0 (vN w h n) (zaa zqc n) (zaa w n)
def vS (s : List UInt8) (h : List Int) (n : Nat) : List Int := vN (wN s 64) h n
def hN (h v : List Int) (n : Nat) : List Int := (List.range 8).map fun i => if i < n then zco .u32 (zaa h i) (zaa v i) else zaa h i
def hS (s : List UInt8) (h : List Int) (n : Nat) : List Int := hN h (vS s h 64) n
def yqy (h : List Int) (s : List UInt8) : List Int := hS s h 8
theorem zyh (s : List UInt8) : ∀ n, (wN s n).length = n
 | 0 => rfl
 | n + 1 => by rw [wN, List.length_append, zyh s n]; rfl
theorem yfz {l : List Int} {v : Int} (i : Nat) : zaa (l ++ [v]) i = if i = l.length then v else zaa l i := by
 rw [zaa, zaa, List.getD_eq_getElem?_getD, List.getD_eq_getElem?_getD]
 by_cases h : i < l.length
 · rw [List.getElem?_append_left h, if_neg (by omega)]
 · rw [List.getElem?_append_right (by omega)]
   by_cases h2 : i = l.length
   · rw [if_pos h2, h2, Nat.sub_self]; rfl
   · rw [if_neg h2, List.getElem?_eq_none (by simp; omega), List.getElem?_eq_none (by omega)]
theorem ye0 {l : List Int} {n : Nat} (v : Int) (hl : l.length = n) (i : Nat) : over std n 0 1 [.int .u32 v] (fun i _ => .int .u32 (zaa l i)) i 0 = .int .u32 (zaa (l ++ [v]) i) := by
 rw [zee, if_pos ⟨Nat.le_refl _, by omega⟩, yfz, hl]
 by_cases hi2 : i = n
 · rw [if_pos hi2, hi2, za3]; rfl
 · rw [if_neg hi2, zac hi2]; rfl
theorem yre {s : List UInt8} {n n' : Nat} (h : n' = n + 1) (h2 : n < 16) : wN s n' = wN s n ++ [zyc s n] := by
 subst h; rw [wN, if_pos h2]
theorem yrf {s : List UInt8} {n n' : Nat} (h : n' = n + 1) (h2 : ¬ n < 16) : wN s n' = wN s n ++ [yg1 (wN s n) n] := by
 subst h; rw [wN, if_neg h2]
def mixA (L : za9) (h : List Int) (s : List UInt8) : Nat -> St -> Option Ann := fun id st => match id with
 | 0 => some ⟨Nat, fun n => [(17, .int .i64 (L za7 n))], fun n => [(7, .row 116 1 64 (fun i _ => .int .u32 (L2 L zaa (L2 L wN s n) i)))], [1, 2, 3, 6, 7], [3, 6], fun n => L (fun n : Nat => n <= 16) n, fun n => L (fun n : Nat => 16 - n) n⟩
 | 2 => some ⟨Nat, fun n => [(11, .int .i64 (L za7 n))], fun n => [(7, .row 116 1 64 (fun i _ => .int .u32 (L2 L zaa (L2 L wN s n) i)))], [1, 2, 3, 6, 7], [3, 6], fun n => L (fun n : Nat => 16 <= n /\ n <= 64) n, fun n => L (fun n : Nat => 64 - n) n⟩
 | 4 => some ⟨Nat, fun n => [(64, .int .i64 (L za7 n))], fun n => [(12, .row 114 1 8 (fun i _ => .int .u32 (L2 L zaa (L3 L vS s h n) i)))], [1, 2, 3, 6, 7, 12], [3, 6, 7], fun n => L (fun n : Nat => n <= 64) n, fun n => L (fun n : Nat => 64 - n) n⟩
 | 6 => some ⟨Nat, fun n => [(127, .int .i64 (L za7 n))], fun n => [(3, .row 114 1 8 (fun i _ => .int .u32 (L2 L zaa (L3 L hS s h n) i)))], [3, 6, 12], [6, 12], fun n => L (fun n : Nat => n <= 8) n, fun n => L (fun n : Nat => 8 - n) n⟩
 | _ => none
def ypl (n : Nat) (g : Nat -> AV) : Prop := n = 64 /\ ∀ j, j < 64 -> g j = .int .u32 (zaa zqc j)
def yse (x : List Int × List UInt8) : List Int := yqy x.1 x.2
def w8L (L : za9) (l : List Int) : AV := .agg [.int .u32 (L2 L zaa l 0), .int .u32 (L2 L zaa l 1), .int .u32 (L2 L zaa l 2), .int .u32 (L2 L zaa l 3), .int .u32 (L2 L zaa l 4), .int .u32 (L2 L zaa l 5), .int .u32 (L2 L zaa l 6), .int .u32 (L2 L zaa l 7)]
def yg8 (L : za9) : zf3 := (79, fun xs => match xs with
 | [.agg [.int .u32 a0, .int .u32 a1, .int .u32 a2, .int .u32 a3, .int .u32 a4, .int .u32 a5, .int .u32 a6, .int .u32 a7], .iptr n g, .str s] => some (L2 L ypl n g /\ L (fun s : List UInt8 => s.length = 64) s, w8L L (L yse ([a0, a1, a2, a3, a4, a5, a6, a7], s)))
 | _ => none)
theorem yrw {h : Array Obj} {D : Nat -> Prop} {μ : Mu} {a x y : AV} {r : List AV} {vs : Array Value} (e : ∀ v, R h D μ x v -> R h D μ y v) (hr : RL h D μ (a :: x :: r) vs) : RL h D μ (a :: y :: r) vs := by
 refine ⟨by rw [<- hr.1]; rfl, fun i z v hz hv => ?_⟩
 match i, hz with
 | 0, hz => exact hr.2 0 z v hz hv
 | 1, hz => cases hz; exact e v (hr.2 1 x v rfl hv)
 | i + 2, hz => exact hr.2 (i + 2) z v hz hv
theorem yhv {P : Program} {f : FuncId} {xs ys : List AV} {r : AV} (h : ∀ h D vs, RL h D zar xs vs -> RL h D zar ys vs) (ha : zbk P f ys r) : zbk P f xs r := fun D w vs hD hx => ha D w vs hD (h _ _ _ hx)
theorem ycb {h : Array Obj} {D : Nat -> Prop} {μ : Mu} {n : Nat} {g g' : Nat -> AV} {v : Value} (r : R h D μ (.iptr n g) v) (e : ∀ j, j < n -> g j = g' j) : R h D μ (.iptr n g') v := by
 cases r with
 | iptr _ _ b o vs hD hv h1 hr => exact .iptr n g' b o vs hD hv h1 (fun j hj => by rw [<- e j hj]; exact hr j hj)
theorem zim {n n' : Nat} (h : n' = n + 1) (h2 : n < 1000) : zco .i64 (za7 n) 1 = za7 n' := by
 subst h; unfold za7; rw [zco, zgr]; omega
theorem znv {n k : Nat} {c : Int} (hc : c = (k : Int)) (h : k <= n) (h2 : n < 1000) : (zp3 .i64 (za7 n) c).toNat = n - k := by
 subst hc; unfold za7; rw [zp3, zgr]; omega
theorem zah {n k : Nat} (h : ilt (za7 n) (za7 k) = true) : n < k := by
 have := of_decide_eq_true h
 unfold za7 at this; omega
theorem zdb {n k : Nat} (h : ilt (za7 n) (za7 k) = false) : ¬ n < k := by
 have := of_decide_eq_false h
 unfold za7 at this; omega
theorem zdi {n k : Nat} (h : n < k) : inR (za7 n) (za7 k) = true := by rw [zoi]; exact ⟨Int.natCast_nonneg _, by unfold za7; omega⟩
theorem zqn {n : Nat} (h : n < 1000) : zjz .i64 4 (za7 n) = ((4 * n : Nat) : Int) /\ zco .i64 (zjz .i64 4 (za7 n)) 4 = ((4 * n + 4 : Nat) : Int) := by
 have e : zjz .i64 4 (za7 n) = ((4 * n : Nat) : Int) := by rw [zjz, zgr, za7]; omega
 rw [e]
 refine ⟨rfl, ?_⟩
 rw [zco, zgr]; omega
theorem w_in {s : List UInt8} {n : Nat} (h : n < 16) (hs : s.length = 64) : inS (zjz .i64 4 (za7 n)) (zco .i64 (zjz .i64 4 (za7 n)) 4) (slen s) = true := by
 obtain ⟨e1, e2⟩ := zqn (n := n) (by omega)
 rw [e2, e1, slen, hs, ypp]
 exact ⟨by omega, by omega, by omega⟩
theorem yrd {s : List UInt8} {n : Nat} (h : n < 16) (hs : s.length = 64) : yh4 (yn9 s (zjz .i64 4 (za7 n)) (zco .i64 (zjz .i64 4 (za7 n)) 4)) := by
 obtain ⟨e1, e2⟩ := zqn (n := n) (by omega)
 rw [e2, e1, yn9, yh4, List.length_drop, List.length_take, hs, Int.toNat_natCast, Int.toNat_natCast]
 omega
theorem zoj {n k : Nat} {c : Int} (hc : c = (k : Int)) (h : k <= n) (h2 : n < 64) : inR (zp3 .i64 (za7 n) c) (za7 64) = true := by
 subst hc
 have e : zp3 .i64 (za7 n) (k : Int) = za7 (n - k) := by unfold za7; rw [zp3, zgr]; omega
 rw [e]
 exact zdi (by omega)
theorem yru {a0 a1 a2 a3 a4 a5 a6 a7 : Int} {i : Nat} {s : List UInt8} (hi : i < 8) : AV.int .u32 (zaa [zaa [a0, a1, a2, a3, a4, a5, a6, a7] 0, zaa [a0, a1, a2, a3, a4, a5, a6, a7] 1, zaa [a0, a1, a2, a3, a4, a5, a6, a7] 2, zaa [a0, a1, a2, a3, a4, a5, a6, a7] 3, zaa [a0, a1, a2, a3, a4, a5, a6, a7] 4, zaa [a0, a1, a2, a3, a4, a5, a6, a7] 5, zaa [a0, a1, a2, a3, a4, a5, a6, a7] 6, zaa [a0, a1, a2, a3, a4, a5, a6, a7] 7] i) = .int .u32 (zaa (vS s [a0, a1, a2, a3, a4, a5, a6, a7] 0) i) := rfl
theorem yez {v : List Int} {k w : Int} {i : Nat} (hi : i < 8) : over std 0 0 1 [.int .u32 (zco .u32 (zyw v k w) (yjn v))] (over std 4 0 1 [.int .u32 (zco .u32 (zaa v 3) (zyw v k w))] (fun i _ => zci std (zdr 1 7 i) (.int .u32 (zaa v (0 + (i - 1)))) (.int .u32 (zaa v i)))) i 0 = .int .u32 (zaa (yf0 v k w) i) := by
 unfold yf0
 generalize zyw v k w = x
 generalize yjn v = y
 match i, hi with
 | 0, _ => rfl
 | 1, _ => rfl
 | 2, _ => rfl
 | 3, _ => rfl
 | 4, _ => rfl
 | 5, _ => rfl
 | 6, _ => rfl
 | 7, _ => rfl
theorem yh2 {h v : List Int} {n i : Nat} (hi : i < 8) : zaa (hN h v n) i = if i < n then zco .u32 (zaa h i) (zaa v i) else zaa h i := by
 rw [hN, zaa, List.getD_eq_getElem?_getD, List.getElem?_map, List.getElem?_range hi]; rfl
theorem ypq {h v : List Int} {n n' i : Nat} (hn : n' = n + 1) (h8 : n < 8) (hi : i < 8) : over std n 0 1 [.int .u32 (zco .u32 (zaa (hN h v n) n) (zaa v n))] (fun i _ => .int .u32 (zaa (hN h v n) i)) i 0 = .int .u32 (zaa (hN h v n') i) := by
 subst hn
 rw [zee, if_pos ⟨Nat.le_refl _, by omega⟩, yh2 hi, yh2 h8, yh2 hi, if_neg (Nat.lt_irrefl n)]
 by_cases hi2 : i = n
 · rw [hi2, za3, if_neg (Nat.lt_irrefl n), if_pos (Nat.lt_succ_self n)]; rfl
 · rw [zac hi2]
   by_cases hlt : i < n
   · rw [if_pos hlt, if_pos (by omega)]; rfl
   · rw [if_neg hlt, if_neg (by omega)]; rfl
theorem hN_0 {h v : List Int} {n i : Nat} (hn : n = 0) (hi : i < 8) : AV.int .u32 (zaa h i) = .int .u32 (zaa (hN h v n) i) := by
 rw [yh2 hi, hn, if_neg (Nat.not_lt_zero i)]
theorem ypr (m : List Int) : zi5 (w8L std m) (.agg [.int .u32 (zaa [zaa m 0, zaa m 1, zaa m 2, zaa m 3, zaa m 4, zaa m 5, zaa m 6, zaa m 7] 0), .int .u32 (zaa [zaa m 0, zaa m 1, zaa m 2, zaa m 3, zaa m 4, zaa m 5, zaa m 6, zaa m 7] 1),
   .int .u32 (zaa [zaa m 0, zaa m 1, zaa m 2, zaa m 3, zaa m 4, zaa m 5, zaa m 6, zaa m 7] 2), .int .u32 (zaa [zaa m 0, zaa m 1, zaa m 2, zaa m 3, zaa m 4, zaa m 5, zaa m 6, zaa m 7] 3), .int .u32 (zaa [zaa m 0, zaa m 1, zaa m 2, zaa m 3, zaa m 4, zaa m 5, zaa m 6, zaa m 7] 4),
   .int .u32 (zaa [zaa m 0, zaa m 1, zaa m 2, zaa m 3, zaa m 4, zaa m 5, zaa m 6, zaa m 7] 5), .int .u32 (zaa [zaa m 0, zaa m 1, zaa m 2, zaa m 3, zaa m 4, zaa m 5, zaa m 6, zaa m 7] 6), .int .u32 (zaa [zaa m 0, zaa m 1, zaa m 2, zaa m 3, zaa m 4, zaa m 5, zaa m 6, zaa m 7] 7)]) := by
 unfold w8L
 simp only [sySet, L2, std]
 exact ⟨rfl, rfl, rfl, rfl, rfl, rfl, rfl, rfl, trivial⟩
theorem zua : zgv Try.prog (yg8 std) := by
 intro xs p r h hp
 dsimp only [yg8] at h |-
 split at h <;> cases h
 try simp only [L2, L3, std] at hp |-
 rename_i a0 a1 a2 a3 a4 a5 a6 a7 n g s
 obtain ⟨⟨hn, hg⟩, hs⟩ : ypl n g /\ s.length = 64 := hp
 subst hn
 obtain ⟨kf, hkf⟩ : ∃ kf : Nat -> Int, kf = zaa zqc := ⟨_, rfl⟩
 obtain ⟨hl, hhl⟩ : ∃ l : List Int, l = [a0, a1, a2, a3, a4, a5, a6, a7] := ⟨_, rfl⟩
 rw [<- hkf] at hg
 refine yhv (fun h D vs hr => yrw (fun v r => ycb r hg) hr) ?_
 rw [<- hhl]
 clear hg g
 refine zaj (T := tt) (S := fun L => zdq [ylt L, ykd L]) (lo := fun L => mixA L hl s) (lb := noA) 5 (fn := Try.f79) rfl rfl (by kernel_rfl) (by kernel_rfl) rfl zap (zav ⟨yh3, yfl, trivial⟩) (by kernel_rfl) ?_
 obtain ⟨n0, hn0⟩ : ∃ n : Nat, n = 0 := ⟨_, rfl⟩
 obtain ⟨n1, hn1⟩ : ∃ n : Nat, n = 16 := ⟨_, rfl⟩
 intro L P' Q' hL hP hQ
 (cbv; try simp only [syT, true_and, and_true])
 refine ⟨⟨n0, ?_⟩, fun n hn => ?_⟩
 · (cbv; try simp only [syT, true_and, and_true])
   subst hL; subst hQ
   refine ⟨fun _ _ _ _ => trivial, fun _ _ _ _ => trivial, fun i j hi hj => ?_, fun _ _ => trivial, ?_, ?_⟩
   · have : j = 0 := by omega
     subst this; subst hn0; rfl
   · subst hn0; rfl
   · subst hn0; exact Nat.zero_le _
 obtain ⟨n', hn'⟩ : ∃ n' : Nat, n' = n + 1 := ⟨_, rfl⟩
 (cbv; try simp only [syT, true_and, and_true])
 refine ⟨fun h1 => ⟨?_, ?_, ?_, n', ?_⟩, fun h1 => ⟨⟨n1, ?_⟩, fun m hm => ?_⟩⟩
 · subst hL
   exact w_in (zah h1) hs
 · subst hL
   exact yrd (zah h1) hs
 · subst hL
   have h16 : n < 16 := zah h1
   exact zdi (by omega)
 · (cbv; try simp only [syT, true_and, and_true])
   subst hL; subst hQ
   have h16 : n < 16 := zah h1
   refine ⟨fun _ _ _ _ => trivial, fun _ _ _ _ => trivial, fun i j hi hj => ?_, fun _ _ => trivial, ?_, ?_, ?_⟩
   · have : j = 0 := by omega
     subst this
     rw [show L2 std wN s n' = wN s n ++ [zyc s n] from yre hn' h16]
     exact ye0 _ (zyh s n) i
   · exact zim hn' (by omega)
   · show n' <= 16
     omega
   · show 16 - n' + 1 <= 16 - n
     omega
 · (cbv; try simp only [syT, true_and, and_true])
   subst hL; subst hQ
   have h16 : n = n1 := by
     have hn : n <= 16 := hn
     have h2 : ¬ n < 16 := zdb h1
     omega
   subst h16
   refine ⟨fun _ _ _ _ => trivial, fun _ _ _ _ => trivial, fun _ _ _ _ => rfl, fun _ _ => trivial, ?_, ?_⟩
   · subst hn1; rfl
   · subst hn1; exact ⟨Nat.le_refl _, by decide⟩
 clear h1 hn hn' n' hn0 n0
 obtain ⟨m', hm'⟩ : ∃ m' : Nat, m' = m + 1 := ⟨_, rfl⟩
 obtain ⟨k0, hk0⟩ : ∃ k : Nat, k = 0 := ⟨_, rfl⟩
 (cbv; try simp only [syT, true_and, and_true])
 refine ⟨fun h1 => ⟨?_, ?_, ?_, ?_, ?_, ?_, ?_, m', ?_⟩, fun h1 => ⟨⟨k0, ?_⟩, fun k hk => ?_⟩⟩
 · subst hL; exact zoj (k := 16) rfl (Nat.le_trans (by decide) hm.1) (zah h1)
 · subst hL; exact zoj (k := 15) rfl (Nat.le_trans (by decide) hm.1) (zah h1)
 · subst hL; show (0 : Int) <= 3; decide
 · subst hL; exact zoj (k := 7) rfl (Nat.le_trans (by decide) hm.1) (zah h1)
 · subst hL; exact zoj (k := 2) rfl (Nat.le_trans (by decide) hm.1) (zah h1)
 · subst hL; show (0 : Int) <= 10; decide
 · subst hL; exact zdi (zah h1)
 · (cbv; try simp only [syT, true_and, and_true])
   subst hL; subst hQ
   have h64 : m < 64 := zah h1
   have h16 : 16 <= m := hm.1
   refine ⟨fun _ _ _ _ => trivial, fun _ _ _ _ => trivial, fun i j hi hj => ?_, fun _ _ => trivial, ?_, ?_, ?_⟩
   · have : j = 0 := by omega
     subst this
     rw [show L2 std wN s m' = wN s m ++ [yg1 (wN s m) m] from yrf hm' (by omega)]
     rw [yg1, <- znv (n := m) (k := 16) (c := 16) rfl h16 (by omega), <- znv (n := m) (k := 15) (c := 15) rfl (by omega) (by omega), <- znv (n := m) (k := 7) (c := 7) rfl (by omega) (by omega), <- znv (n := m) (k := 2) (c := 2) rfl (by omega) (by omega)]
     exact ye0 _ (zyh s m) i
   · exact zim hm' (by omega)
   · exact ⟨by omega, by omega⟩
   · show 64 - m' + 1 <= 64 - m
     omega
 · (cbv; try simp only [syT, true_and, and_true])
   subst hL; subst hQ
   refine ⟨fun _ _ _ _ => trivial, fun _ _ _ _ => trivial, fun _ _ _ _ => trivial, fun i j hi hj => ?_, fun _ _ => trivial, ?_, ?_⟩
   · subst hk0; subst hhl
     exact yru (s := s) hi
   · subst hk0; rfl
   · subst hk0; exact Nat.zero_le _
 have hm64 : m = 64 := by
   subst hL
   have : ¬ m < 64 := zdb h1
   have : m <= 64 := hm.2
   omega
 subst hm64
 clear h1 hm hm' m' hk0 k0
 obtain ⟨k', hk'⟩ : ∃ k' : Nat, k' = k + 1 := ⟨_, rfl⟩
 obtain ⟨q0, hq0⟩ : ∃ q : Nat, q = 0 := ⟨_, rfl⟩
 (cbv; try simp only [syT, true_and, and_true])
 refine ⟨fun h1 => ⟨?_, ?_, ?_, ?_, ?_, ?_, ?_, ?_, ?_, ?_, ?_, ?_, ?_, ?_, ?_, ?_, ?_, ?_, ?_, ?_, ?_, ?_, k', ?_⟩, fun h1 => ⟨⟨q0, ?_⟩, fun q hq => ?_⟩⟩
 · subst hL; rfl
 · subst hL; rfl
 · subst hL; show (0 : Int) <= 25; decide
 · subst hL; rfl
 · subst hL; rfl
 · subst hL; rfl
 · subst hL; rfl
 · subst hL; exact zdi (zah h1)
 · subst hL; exact zdi (zah h1)
 · subst hL; rfl
 · subst hL; show (0 : Int) <= 22; decide
 · subst hL; rfl
 · subst hL; rfl
 · subst hL; rfl
 · subst hL; rfl
 · subst hL; rfl
 · subst hL; rfl
 · subst hL; rfl
 · subst hL; rfl
 · subst hL; rfl
 · subst hL; rfl
 · subst hL; rfl
 · (cbv; try simp only [syT, true_and, and_true])
   subst hL; subst hQ
   have h64 : k < 64 := zah h1
   refine ⟨fun _ _ _ _ => trivial, fun _ _ _ _ => trivial, fun _ _ _ _ => trivial, fun i j hi hj => ?_, fun _ _ => trivial, ?_, ?_, ?_⟩
   · have : j = 0 := by omega
     subst this
     have e : vS s hl k' = yf0 (vS s hl k) (kf k) (zaa (wN s 64) k) := by subst hk'; subst hkf; rfl
     have ek : (za7 k).toNat = k := Int.toNat_natCast k
     simp only [L2, L3, std, ek, e]
     clear e
     generalize vS s hl k = v
     generalize wN s 64 = w
     exact yez hi
   · exact zim hk' (by omega)
   · show k' <= 64
     omega
   · show 64 - k' + 1 <= 64 - k
     omega
 · (cbv; try simp only [syT, true_and, and_true])
   subst hL; subst hQ
   have hk64 : k = 64 := by
     have : ¬ k < 64 := zdb h1
     have : k <= 64 := hk
     omega
   subst hk64
   refine ⟨fun _ _ _ _ => trivial, fun _ _ _ _ => trivial, fun i j hi hj => ?_, ?_, ?_⟩
   · exact hhl ▸ hN_0 hq0 hi
   · subst hq0; rfl
   · subst hq0; exact Nat.zero_le _
 have hk64 : k = 64 := by
   subst hL
   have : ¬ k < 64 := zdb h1
   have : k <= 64 := hk
   omega
 subst hk64
 clear h1 hk hk' k' hq0 q0
 obtain ⟨q', hq'⟩ : ∃ q' : Nat, q' = q + 1 := ⟨_, rfl⟩
 (cbv; try simp only [syT, true_and, and_true])
 refine ⟨fun h1 => ⟨?_, ?_, ?_, q', ?_⟩, fun h1 => ?_⟩
 · subst hL; exact zdi (zah h1)
 · subst hL; exact zdi (zah h1)
 · subst hL; exact zdi (zah h1)
 · (cbv; try simp only [syT, true_and, and_true])
   subst hL; subst hQ
   have h8 : q < 8 := zah h1
   refine ⟨fun _ _ _ _ => trivial, fun _ _ _ _ => trivial, fun i j hi hj => ?_, ?_, ?_, ?_⟩
   · have : j = 0 := by omega
     subst this
     have ek : (za7 q).toNat = q := Int.toNat_natCast q
     simp only [L2, L3, std, ek, hS]
     exact ypq hq' h8 hi
   · exact zim hq' (by omega)
   · show q' <= 8
     omega
   · show 8 - q' + 1 <= 8 - q
     omega
 · subst hL; subst hQ
   have hq8 : q = 8 := by
     have : ¬ q < 8 := zdb h1
     have : q <= 8 := hq
     omega
   subst hq8
   rw [show yse (hl, s) = hS s hl 8 from rfl]
   simp only [std]
   generalize hS s hl 8 = m
   exact ypr m
def yq8 (p : List UInt8) (n : Nat) : List UInt8 := (p.drop (64 * n)).take 64
def zoz (p : List UInt8) : Nat -> List Int
 | 0 => zmw
 | n + 1 => yqy (zoz p n) (yq8 p n)
def yee (m : List Int) : Nat -> List UInt8
 | 0 => []
 | n + 1 => yee m n ++ yak (IntKind.u64.wrap (zaa m n)) 4
def yo4 (p : List UInt8) : List UInt8 := yee (zoz p (p.length / 64)) 8
def zi7 (p : List UInt8) (n : Nat) : List UInt8 := p.drop (64 * n)
def ydy (p : List UInt8) (n : Nat) : Prop := 64 * (n + 1) <= p.length
theorem znp (m : List Int) : ∀ n, (yee m n).length = 4 * n
 | 0 => rfl
 | n + 1 => by rw [yee, List.length_append, znp m n, zkf _ _ (by decide) (by decide)]; show 4 * n + 4 = _; omega
theorem zti (p : List UInt8) : (yo4 p).length = 32 := znp _ 8
theorem zjm (s : List UInt8) : (yau s).length % 64 = 0 /\ 64 <= (yau s).length /\ (yau s).length = s.length + 9 + yqv s := by
 have : (yau s).length = s.length + 9 + yqv s := by
   rw [yau, List.length_append, List.length_append, List.length_append, List.length_replicate, zkf _ _ (by decide) (by decide)]
   show s.length + 1 + yqv s + 8 = _
   omega
 rw [this]
 unfold yqv
 omega
def zvm (x : AV) : List UInt8 := yo4 (yau (zof x))
def smB (L : za9) (p : List UInt8) : Nat -> St -> Option Ann := fun id st => match id with
 | 0 => some ⟨Nat, fun n => [(3, .str (L2 L zi7 p n)), (4, .ref 4 0), (5, .ref 5 0)], fun n => [(5, .row 116 1 64 (fun i _ => .int .u32 (L2 L zaa zqc i))), (4, .row 114 1 8 (fun i _ => .int .u32 (L2 L zaa (L2 L zoz p n) i)))], [2, 700005], [2], fun n => L2 L ydy p n, fun n => L2 L (fun (p : List UInt8) (n : Nat) => p.length - n) p n⟩
 | _ => none
def smA (L : za9) (m : List Int) : Nat -> St -> Option Ann := fun id st => match id with
 | 0 => some ⟨Nat, fun n => [(23, .int .i64 (L za7 n)), (22, w8L L m)], fun n => [(6, .row 98 1 32 (fun i _ => .int .u8 (L2 L zce (L2 L yee m n) i)))], [2, 6], [2], fun n => L (fun n : Nat => n <= 8) n, fun n => L (fun n : Nat => 8 - n) n⟩
 | _ => none
def yex (L : za9) : zf3 := (60, fun xs => match xs with | [x] => some (L zg2 x, .arr 32 (fun j => .int .u8 (L2 L zce (L zvm x) j))) | _ => none)
theorem zjv {p : List UInt8} {k : Nat} (h : ydy p k) : inC 64 (slen (zi7 p k)) = true := by
 have h : 64 * (k + 1) <= p.length := h
 rw [inC, slen, zi7, List.length_drop, Bool.and_eq_true, decide_eq_true_eq, decide_eq_true_eq]
 omega
theorem ydw {p : List UInt8} {k : Nat} (h : ydy p k) : ((zi7 p k).take (64 : Int).toNat).length = 64 := by
 have h : 64 * (k + 1) <= p.length := h
 rw [zi7, List.length_take, List.length_drop]
 show min 64 _ = _
 omega
theorem zjw {p : List UInt8} {k k' : Nat} (h : k' = k + 1) : (zi7 p k).drop (64 : Int).toNat = zi7 p k' := by
 subst h
 rw [zi7, zi7, List.drop_drop]; rfl
theorem zva {p : List UInt8} {k k' : Nat} (hp : p.length % 64 = 0) (h : k' = k + 1) (hn : ¬ (zi7 p k').length = 0) : ydy p k' := by
 rw [zi7, List.length_drop] at hn
 show 64 * (k' + 1) <= p.length
 omega
theorem ydx {p : List UInt8} {k k' : Nat} (hk : ydy p k) (h : k' = k + 1) (hn : (zi7 p k').length = 0) : k' = p.length / 64 := by
 have hk : 64 * (k + 1) <= p.length := hk
 rw [zi7, List.length_drop] at hn
 omega
theorem zsp {l : List Int} (h : l.length = 8) : [zaa l 0, zaa l 1, zaa l 2, zaa l 3, zaa l 4, zaa l 5, zaa l 6, zaa l 7] = l := by
 match l, h with
 | [a, b, c, d, e, f, g, h], _ => rfl
theorem yg9 (h : List Int) (s : List UInt8) : (yqy h s).length = 8 := by
 rw [yqy, hS, hN, List.length_map, List.length_range]
theorem zf9 (p : List UInt8) : ∀ k, (zoz p k).length = 8
 | 0 => rfl
 | k + 1 => yg9 _ _
theorem zjh {p : List UInt8} {k k' : Nat} (h : k' = k + 1) : yse ([zaa (zoz p k) 0, zaa (zoz p k) 1, zaa (zoz p k) 2, zaa (zoz p k) 3, zaa (zoz p k) 4, zaa (zoz p k) 5, zaa (zoz p k) 6, zaa (zoz p k) 7], (zi7 p k).take (64 : Int).toNat) = zoz p k' := by
 rw [zsp (zf9 p k)]
 subst h
 rfl
theorem yi3 {l : List UInt8} (h : (!seq l []) = true) : ¬ l.length = 0 := by
 intro hl
 rw [List.eq_nil_of_length_eq_zero hl] at h
 exact absurd h (by decide)
theorem zz4 {l : List UInt8} (h : (!seq l []) = false) : l.length = 0 := by
 have : l = [] := by
   have h2 : seq l [] = true := by simpa using h
   simpa [seq] using h2
 rw [this]; rfl
theorem yi9 {q : Nat} (h : q < 8) : inC (zjz .i64 4 (za7 q)) (za7 32) = true := by
 rw [(zqn (n := q) (by omega)).1, ylj]
 unfold za7
 omega
theorem yaw (x : Int) : yfp (IntKind.u64.wrap x) 4 := by
 refine ⟨zgz _, ?_, by decide, by decide⟩
 rw [zyg]; omega
theorem ztv {q : Nat} {x : Int} (h : q < 8) : ya6 (List.length (yak x 4)) (Nat.sub 32 (Int.toNat (zjz .i64 4 (za7 q)))) = true := by
 rw [(zqn (n := q) (by omega)).1, Int.toNat_natCast, zkf _ _ (by decide) (by decide), ya6, Bool.and_eq_true, zc7, zcr]
 show 0 < 32 - 4 * q /\ 4 <= 32 - 4 * q
 omega
theorem yav {m : List Int} {q q' : Nat} (hq : q' = q + 1) (h8 : q < 8) (i : Nat) : zci std (zdr (Nat.add 0 (Int.toNat (zjz .i64 4 (za7 q)))) (List.length (yak (IntKind.u64.wrap (zaa m q)) 4)) i)
   (.int .u8 (zng (yak (IntKind.u64.wrap (zaa m q)) 4) (za7 (Nat.sub i (Nat.add 0 (Int.toNat (zjz .i64 4 (za7 q)))))))) (.int .u8 (zce (yee m q) i)) = .int .u8 (zce (yee m q') i) := by
 subst hq
 rw [(zqn (n := q) (by omega)).1, Int.toNat_natCast, show Nat.add 0 (4 * q) = 4 * q from Nat.zero_add _, show yee m (q + 1) = yee m q ++ yak (IntKind.u64.wrap (zaa m q)) 4 from rfl]
 have hl := znp m q
 have hp := zkf (IntKind.u64.wrap (zaa m q)) 4 (by decide) (by decide)
 generalize yee m q = l at hl |-
 generalize yak (IntKind.u64.wrap (zaa m q)) 4 = b at hp |-
 have hp : b.length = 4 := hp
 rw [hp, zdr]
 by_cases h1 : i < 4 * q
 · rw [show zbh (4 * q) i = false by rw [Bool.eq_false_iff, ne_eq, zcr]; omega, yhq (by omega)]; rfl
 · rw [show zbh (4 * q) i = true by rw [zcr]; omega, yhp (by omega), hl]
   by_cases h2 : i < 4 * q + 4
   · rw [yta h2]
     show AV.int .u8 (zng b (za7 (i - 4 * q))) = _
     rw [zng, za7, Int.toNat_natCast]; rfl
   · rw [ytb h2]
     show AV.int .u8 (zce l i) = _
     rw [zce, zce, List.getD_eq_getElem?_getD, List.getD_eq_getElem?_getD, List.getElem?_eq_none (by omega), List.getElem?_eq_none (by omega)]
theorem yjj {n : Nat} {get : Nat -> Nat -> AV} (hp : zg2 (.lst 1 n get)) : zbk Try.prog 60 [.lst 1 n get] (.arr 32 (fun j => .int .u8 (L2 std zce (std zvm (.lst 1 n get)) j))) := by
 obtain ⟨p, hpp⟩ : ∃ p, p = yau (zof (.lst 1 n get)) := ⟨_, rfl⟩
 obtain ⟨m, hm⟩ : ∃ m, m = zoz p (p.length / 64) := ⟨_, rfl⟩
 have hlen : p.length % 64 = 0 /\ 64 <= p.length := by rw [hpp]; exact ⟨(zjm _).1, (zjm _).2.1⟩
 refine zaj (T := tt) (S := fun L => zdq [zux L, zn8 L, zom L, zuu L, yg8 L, zwp L]) (lo := fun L => smA L m) (lb := fun L => smB L p) 5 (fn := Try.f60) rfl rfl (by kernel_rfl) (by kernel_rfl) rfl zap (zav ⟨zqe, zm4, zmv, zqb, zua, zjj, trivial⟩) (by kernel_rfl) ?_
 obtain ⟨n0, hn0⟩ : ∃ n : Nat, n = 0 := ⟨_, rfl⟩
 intro L P' Q' hL hP hQ
 obtain ⟨q0, hq0⟩ : ∃ n : Nat, n = 0 := ⟨_, rfl⟩
 (cbv; try simp only [syT, true_and, and_true])
 refine ⟨fun k hk => ?_, ?_⟩
 · obtain ⟨k', hk'⟩ : ∃ k' : Nat, k' = k + 1 := ⟨_, rfl⟩
   (cbv; try simp only [syT, true_and, and_true])
   refine ⟨?_, ⟨⟨?_, ?_⟩, ?_, fun h1 => ⟨k', ?_⟩, fun h1 => ⟨⟨q0, ?_⟩, fun q hq => ?_⟩⟩⟩
   · subst hL; exact zjv hk
   · subst hL; exact ⟨rfl, fun j hj => rfl⟩
   · subst hL; exact ydw hk
   · subst hL; exact zjv hk
   · (cbv; try simp only [syT, true_and, and_true])
     subst hL; subst hQ
     simp only [L2, std] at h1 |-
     rw [zjw hk'] at h1 |-
     rw [zjh hk', zsp (zf9 _ _)]
     refine ⟨fun _ _ _ _ => trivial, fun _ _ _ _ => rfl, fun _ _ _ _ => trivial, rfl, zva hlen.1 hk' (yi3 h1), ?_⟩
     have hk : 64 * (k + 1) <= p.length := hk
     show p.length - k' + 1 <= p.length - k
     omega
   · (cbv; try simp only [syT, true_and, and_true])
     subst hL; subst hQ
     simp only [L2, std] at h1 |-
     rw [zjw hk'] at h1
     rw [zjh hk', zsp (zf9 _ _)]
     have hm : m = zoz p k' := by rw [hm, <- ydx hk hk' (zz4 h1)]
     rw [<- hm]
     subst hq0
     refine ⟨fun _ _ _ _ => trivial, fun i j hi hj => ?_, rfl, rfl, rfl, rfl, rfl, rfl, rfl, rfl, rfl, by decide⟩
     have : j = 0 := by omega
     subst this; rfl
   · obtain ⟨q', hq'⟩ : ∃ q' : Nat, q' = q + 1 := ⟨_, rfl⟩
     have hm8 : m.length = 8 := by rw [hm]; exact zf9 _ _
     (cbv; try simp only [syT, true_and, and_true])
     refine ⟨fun h2 => ⟨?_, ?_, ?_, ?_, q', ?_⟩, fun h2 => ?_⟩
     · subst hL; exact zdi (zah h2)
     · subst hL; exact yi9 (zah h2)
     · subst hL; exact yaw _
     · subst hL; exact ztv (zah h2)
     · (cbv; try simp only [syT, true_and, and_true])
       subst hL; subst hQ
       have h8 : q < 8 := zah h2
       have ek : (za7 q).toNat = q := Int.toNat_natCast q
       simp only [L2, L3, std, ek]
       rw [zsp hm8]
       refine ⟨fun _ _ _ _ => trivial, fun i j hi hj => yav hq' h8 i, ?_, ?_, ?_⟩
       · exact zim hq' (by omega)
       · show q' <= 8
         omega
       · show 8 - q' + 1 <= 8 - q
         omega
     · subst hL; subst hQ
       have hq8 : q = 8 := by
         have : ¬ q < 8 := zdb h2
         have : q <= 8 := hq
         omega
       subst hq8
       rw [zol]
       intro j hj
       simp only [L2, std, zvm, yo4]
       rw [<- hpp, <- hm]
 · (cbv; try simp only [syT, true_and, and_true])
   refine ⟨?_, ?_, n0, ?_⟩
   · subst hL; exact hp
   · subst hL; exact hp.2.2
   · (cbv; try simp only [syT, true_and, and_true])
     subst hL; subst hQ
     refine ⟨fun _ _ _ _ => trivial, fun i j hi hj => ?_, fun _ _ _ _ => trivial, ?_, ?_⟩
     · subst hn0; rfl
     · subst hn0; exact hpp.symm
     · subst hn0
       show 64 * (0 + 1) <= p.length
       omega
theorem yji (hp : zg2 .nils) : zbk Try.prog 60 [.nils] (.arr 32 (fun j => .int .u8 (L2 std zce (std zvm .nils) j))) := by
 obtain ⟨p, hpp⟩ : ∃ p, p = yau (zof .nils) := ⟨_, rfl⟩
 obtain ⟨m, hm⟩ : ∃ m, m = zoz p (p.length / 64) := ⟨_, rfl⟩
 have hlen : p.length % 64 = 0 /\ 64 <= p.length := by rw [hpp]; exact ⟨(zjm _).1, (zjm _).2.1⟩
 refine zaj (T := tt) (S := fun L => zdq [zux L, zn8 L, zom L, zuu L, yg8 L, zwp L]) (lo := fun L => smA L m) (lb := fun L => smB L p) 5 (fn := Try.f60) rfl rfl (by kernel_rfl) (by kernel_rfl) rfl zap (zav ⟨zqe, zm4, zmv, zqb, zua, zjj, trivial⟩) (by kernel_rfl) ?_
 obtain ⟨n0, hn0⟩ : ∃ n : Nat, n = 0 := ⟨_, rfl⟩
 intro L P' Q' hL hP hQ
 obtain ⟨q0, hq0⟩ : ∃ n : Nat, n = 0 := ⟨_, rfl⟩
 (cbv; try simp only [syT, true_and, and_true])
 refine ⟨fun k hk => ?_, ?_⟩
 · obtain ⟨k', hk'⟩ : ∃ k' : Nat, k' = k + 1 := ⟨_, rfl⟩
   (cbv; try simp only [syT, true_and, and_true])
   refine ⟨?_, ⟨⟨?_, ?_⟩, ?_, fun h1 => ⟨k', ?_⟩, fun h1 => ⟨⟨q0, ?_⟩, fun q hq => ?_⟩⟩⟩
   · subst hL; exact zjv hk
   · subst hL; exact ⟨rfl, fun j hj => rfl⟩
   · subst hL; exact ydw hk
   · subst hL; exact zjv hk
   · (cbv; try simp only [syT, true_and, and_true])
     subst hL; subst hQ
     simp only [L2, std] at h1 |-
     rw [zjw hk'] at h1 |-
     rw [zjh hk', zsp (zf9 _ _)]
     refine ⟨fun _ _ _ _ => trivial, fun _ _ _ _ => rfl, fun _ _ _ _ => trivial, rfl, zva hlen.1 hk' (yi3 h1), ?_⟩
     have hk : 64 * (k + 1) <= p.length := hk
     show p.length - k' + 1 <= p.length - k
     omega
   · (cbv; try simp only [syT, true_and, and_true])
     subst hL; subst hQ
     simp only [L2, std] at h1 |-
     rw [zjw hk'] at h1
     rw [zjh hk', zsp (zf9 _ _)]
     have hm : m = zoz p k' := by rw [hm, <- ydx hk hk' (zz4 h1)]
     rw [<- hm]
     subst hq0
     refine ⟨fun _ _ _ _ => trivial, fun i j hi hj => ?_, rfl, rfl, rfl, rfl, rfl, rfl, rfl, rfl, rfl, by decide⟩
     have : j = 0 := by omega
     subst this; rfl
   · obtain ⟨q', hq'⟩ : ∃ q' : Nat, q' = q + 1 := ⟨_, rfl⟩
     have hm8 : m.length = 8 := by rw [hm]; exact zf9 _ _
     (cbv; try simp only [syT, true_and, and_true])
     refine ⟨fun h2 => ⟨?_, ?_, ?_, ?_, q', ?_⟩, fun h2 => ?_⟩
     · subst hL; exact zdi (zah h2)
     · subst hL; exact yi9 (zah h2)
     · subst hL; exact yaw _
     · subst hL; exact ztv (zah h2)
     · (cbv; try simp only [syT, true_and, and_true])
       subst hL; subst hQ
       have h8 : q < 8 := zah h2
       have ek : (za7 q).toNat = q := Int.toNat_natCast q
       simp only [L2, L3, std, ek]
       rw [zsp hm8]
       refine ⟨fun _ _ _ _ => trivial, fun i j hi hj => yav hq' h8 i, ?_, ?_, ?_⟩
       · exact zim hq' (by omega)
       · show q' <= 8
         omega
       · show 8 - q' + 1 <= 8 - q
         omega
     · subst hL; subst hQ
       have hq8 : q = 8 := by
         have : ¬ q < 8 := zdb h2
         have : q <= 8 := hq
         omega
       subst hq8
       rw [zol]
       intro j hj
       simp only [L2, std, zvm, yo4]
       rw [<- hpp, <- hm]
 · (cbv; try simp only [syT, true_and, and_true])
   refine ⟨?_, ?_, n0, ?_⟩
   · subst hL; exact hp
   · subst hL; exact Nat.zero_le _
   · (cbv; try simp only [syT, true_and, and_true])
     subst hL; subst hQ
     refine ⟨fun _ _ _ _ => trivial, fun i j hi hj => ?_, fun _ _ _ _ => trivial, ?_, ?_⟩
     · subst hn0; rfl
     · subst hn0; exact hpp.symm
     · subst hn0
       show 64 * (0 + 1) <= p.length
       omega
theorem zmo {x : AV} (hp : zg2 x) : x = .nils \/ ∃ n get, x = .lst 1 n get := by
 unfold zg2 at hp
 split at hp
 · exact .inr ⟨_, _, rfl⟩
 · exact .inl rfl
 · exact hp.elim
theorem zth : zgv Try.prog (yex std) := by
 intro xs p r h hp
 dsimp only [yex] at h |-
 split at h <;> cases h
 try simp only [L2, L3, std] at hp |-
 rename_i x
 rcases zmo hp with rfl | ⟨n, get, rfl⟩
 · exact yji hp
 · exact yjj hp
def ztc (L : za9) : zf3 := (53, fun xs => match xs with | [x] => some (L zg2 x, .str (L zvm x)) | _ => none)
theorem ztj (x : AV) : (zvm x).length = 32 := zti _
theorem ztb (x : AV) : zay 32 (fun i => (AV.int .u8 (zce (zvm x) (0 + i))).toI) = zvm x := by
 have := zxp (zvm x)
 rw [ztj] at this
 simp only [Nat.zero_add]
 exact this
theorem zp7 : zgv Try.prog (ztc std) := by
 intro xs p r h hp
 dsimp only [ztc] at h |-
 split at h <;> cases h
 try simp only [L2, L3, std] at hp |-
 rename_i x
 have hp : zg2 x := hp
 rcases zmo hp with rfl | ⟨n, get, rfl⟩
 · refine zaj (T := tt) (S := fun L => zdq [yex L]) (lo := noA) (lb := noA) 5 (fn := Try.f53) rfl rfl (by kernel_rfl) (by kernel_rfl) rfl zap (zav ⟨zth, trivial⟩) (by kernel_rfl) ?_
   (intro L P1 Q1 hL hP hQ; cbv; subst hL; simp only [L2, L3, std, syT]; subst hQ)
   refine ⟨hp, trivial, ⟨show 0 + 32 <= 32 by decide, fun i _ => ⟨_, rfl⟩⟩, ?_⟩
   rw [ztb, zi4]
 · refine zaj (T := tt) (S := fun L => zdq [yex L]) (lo := noA) (lb := noA) 5 (fn := Try.f53) rfl rfl (by kernel_rfl) (by kernel_rfl) rfl zap (zav ⟨zth, trivial⟩) (by kernel_rfl) ?_
   (intro L P1 Q1 hL hP hQ; cbv; subst hL; simp only [L2, L3, std, syT]; subst hQ)
   refine ⟨hp, trivial, ⟨show 0 + 32 <= 32 by decide, fun i _ => ⟨_, rfl⟩⟩, ?_⟩
   rw [ztb, zi4]
def zwq (s : List UInt8) : List UInt8 := yo4 (yau s)
theorem yey (s : List UInt8) : zvm (.lst 1 1 fun i _ => .str (yb3 [s] (Nat.add 0 i))) = zwq s := by
 have e : zof (.lst 1 1 fun i _ => .str (yb3 [s] (Nat.add 0 i))) = s := by
   show s ++ [] = s
   exact List.append_nil s
 rw [zvm, e, zwq]
theorem ygx (s : List UInt8) (h : s.length <= 1000000) : zg2 (.lst 1 1 fun i _ => .str (yb3 [s] (Nat.add 0 i))) := by
 refine ⟨fun i _ => ⟨_, rfl⟩, by decide, ?_⟩
 show (s ++ []).length <= 1000000
 rw [List.append_nil]; exact h
theorem zjk (s : List UInt8) : (zwq s).length = 32 := zti _
abbrev B32 (a : Int) : BitVec IntKind.u32.bits := BitVec.ofInt IntKind.u32.bits a
def n32 (b : BitVec IntKind.u32.bits) : Int := b.toNat
theorem yrb (b : BitVec IntKind.u32.bits) : IntKind.u32.wrap b.toNat = n32 b := by
 rw [yns, n32]
 have : b.toNat < 2 ^ 32 := b.isLt
 omega
theorem yox (a b : Int) : bor .u32 a b = n32 (B32 a ||| B32 b) := yrb _
theorem or_comm (a b : Int) : bor .u32 a b = bor .u32 b a := by
 rw [yox, yox, BitVec.or_comm]
def hB (p : List UInt8) (a : Int) (n : Nat) : List Int := hS (yq8 p (a.toNat / 64)) (zoz p (a.toNat / 64)) n
theorem yqj : (zwq [97, 98, 99]).take 4 = [186, 120, 22, 191] := by decide +kernel
theorem zxv : zbk Try.prog 55 [] (.bool true) := by
 refine zaj (T := tt) (S := fun L => zdq [tru 41, ztc L, ykn L]) (lo := noA) (lb := noA) 5 (fn := Try.f55) rfl rfl (by kernel_rfl) (by kernel_rfl) rfl zap (zav ⟨zec zn4, zp7, yfr, trivial⟩) (by kernel_rfl) ?_
 (intro L P1 Q1 hL hP hQ; cbv; subst hL; simp only [L2, L3, std, syT]; subst hQ)
 have e : zvm (.lst 1 2 fun i _ => .str (yb3 [[97], [98, 99]] (Nat.add 0 i))) = zwq [97, 98, 99] := rfl
 have hb : yed (zwq [97, 98, 99]) [186, 120, 22, 191] = true := by
   show (List.take 4 (zwq [97, 98, 99]) == [186, 120, 22, 191]) = true
   rw [yqj]; rfl
 rw [e, hb]
 refine ⟨trivial, fun _ => ⟨⟨?_, by decide, by decide⟩, ⟨?_, by decide⟩, fun _ => ⟨trivial, ?_⟩, fun h => by cases h⟩, fun h => by cases h⟩
 · intro i hi
   exact ⟨_, rfl⟩
 · rw [zjk]; decide
 · rw [zck, slen, ztj]; rfl
theorem zm8 : ∀ (k n : Nat), n < 128 ^ (k + 1) -> (zdv n).length <= k + 1
 | 0, n, h => by rw [zdl (by omega)]; simp
 | k + 1, n, h => by
   by_cases h1 : n < 128
   · rw [zdl h1]; simp
   · rw [zgd (by omega), List.length_cons]
     have := zm8 k (n / 128) (by rw [Nat.div_lt_iff_lt_mul (by omega)]; rw [Nat.pow_succ] at h; exact h)
     omega
theorem zgc {n : Int} (h : zig n) : (zdu n).length <= 10 := zm8 9 n.toNat (by
 have := h.2
 have := h.1
 rw [show (128 : Nat) ^ (9 + 1) = 1180591620717411303424 from by decide]
 omega)
def cb (s : List UInt8) (i : Nat) : Nat := (s.getD i 0).toNat
theorem yho (s : List UInt8) (i : Nat) : cb s i < 256 := UInt8.toNat_lt _
def lng (s : List UInt8) : Nat -> Nat -> Nat -> Nat × Nat × Nat
 | 0, _, _ => (0, 0, 4)
 | f + 1, i, n =>
   if s.length <= i then (0, 0, 3)
   else if i = 9 /\ 1 < cb s i then (0, 0, 4)
   else if 128 <= cb s i then lng s f (i + 1) (n + cb s i % 128 * 2 ^ (7 * i))
   else if 0 < cb s i \/ i = 0 then (n + cb s i % 128 * 2 ^ (7 * i), i + 1, 0)
   else (0, 0, 4)
def zsa (s : List UInt8) : Int := (lng s 10 0 0).1
def zsb (s : List UInt8) : Int := (lng s 10 0 0).2.1
def zy4 (s : List UInt8) : Int := (lng s 10 0 0).2.2
def zhv (s : List UInt8) (x : Nat × Nat) : Prop := x.1 <= s.length /\ x.1 <= 9 /\ x.2 < 2 ^ (7 * x.1) /\ lng s (10 - x.1) x.1 x.2 = lng s 10 0 0
theorem ymw {n m i : Nat} (hn : n < 2 ^ i) (hm : m * 2 ^ i < 2 ^ 64) (hn' : n < 2 ^ 64) : bor .u64 (n : Int) ((m * 2 ^ i : Nat) : Int) = ((n + m * 2 ^ i : Nat) : Int) := by
 have e : n ||| m * 2 ^ i = n + m * 2 ^ i := by
   have := Nat.shiftLeft_add_eq_or_of_lt hn m
   rw [Nat.shiftLeft_eq] at this
   rw [Nat.or_comm, <- this, Nat.add_comm]
 have hlt : n ||| m * 2 ^ i < 2 ^ 64 := Nat.or_lt_two_pow hn' hm
 unfold bor
 rw [show IntKind.u64.bits = 64 from rfl, BitVec.ofInt_natCast, BitVec.ofInt_natCast, BitVec.toNat_or, BitVec.toNat_ofNat, BitVec.toNat_ofNat, Nat.mod_eq_of_lt hn', Nat.mod_eq_of_lt hm, zyg, <- e]
 omega
theorem yo8 {c i : Nat} (h : c * 2 ^ (7 * i) < 2 ^ 64) (hi : i <= 9) : yea .u64 (c : Int) (7 * (i : Int)) = ((c * 2 ^ (7 * i) : Nat) : Int) := by
 unfold yea
 rw [show (7 * (i : Int)).toNat = 7 * i by omega, show IntKind.u64.bits = 64 from rfl, Nat.min_eq_left (by omega), zyg]
 have e : ((c : Int) * 2 ^ (7 * i)) = ((c * 2 ^ (7 * i) : Nat) : Int) := by simp
 rw [e]
 omega
theorem pow9 {i : Nat} (hi : i <= 9) : 2 ^ (7 * i) <= 2 ^ 63 := Nat.pow_le_pow_right (by decide) (by omega)
theorem zo6 {c i n : Nat} (hi : i <= 9) (hn : n < 2 ^ (7 * i)) (hc : c < 256) (h9 : ¬ (i = 9 /\ 1 < c)) : n + c % 128 * 2 ^ (7 * i) < 2 ^ (7 * (i + 1)) /\ n + c % 128 * 2 ^ (7 * i) < 2 ^ 64 /\ c % 128 * 2 ^ (7 * i) < 2 ^ 64 /\ n < 2 ^ 64 := by
 have h1 := pow9 hi
 have e : 2 ^ (7 * (i + 1)) = 128 * 2 ^ (7 * i) := by rw [show 7 * (i + 1) = 7 + 7 * i by omega, Nat.pow_add]
 have h2 : c % 128 * 2 ^ (7 * i) <= 127 * 2 ^ (7 * i) := Nat.mul_le_mul_right _ (by omega)
 rw [e]
 refine ⟨by omega, ?_⟩
 by_cases h : i = 9
 · subst h
   have : c <= 1 := by omega
   have h3 : c % 128 * 2 ^ (7 * 9) <= 1 * 2 ^ (7 * 9) := Nat.mul_le_mul_right _ (by omega)
   omega
 · have h3 : 2 ^ (7 * i) <= 2 ^ 56 := Nat.pow_le_pow_right (by decide) (by omega)
   omega
theorem ype {c i n : Nat} (hi : i <= 9) (hn : n < 2 ^ (7 * i)) (hc : c < 256) (h9 : ¬ (i = 9 /\ 1 < c)) : bor .u64 (n : Int) (yea .u64 ((c : Int) % 128) (7 * (i : Int))) = ((n + c % 128 * 2 ^ (7 * i) : Nat) : Int) := by
 obtain ⟨_, _, h3, h4⟩ := zo6 hi hn hc h9
 rw [show ((c : Int) % 128) = ((c % 128 : Nat) : Int) by omega, yo8 h3 hi, ymw hn h3 h4]
theorem zhu {s : List UInt8} {i n : Nat} (hx : zhv s (i, n)) : lng s 10 0 0 = if s.length <= i then (0, 0, 3)
   else if i = 9 /\ 1 < cb s i then (0, 0, 4)
   else if 128 <= cb s i then lng s (9 - i) (i + 1) (n + cb s i % 128 * 2 ^ (7 * i))
   else if 0 < cb s i \/ i = 0 then (n + cb s i % 128 * 2 ^ (7 * i), i + 1, 0)
   else (0, 0, 4) := by
 obtain ⟨h1, h2, h3, h4⟩ := hx
 rw [<- h4]
 simp only at h2 |-
 rw [show 10 - i = (9 - i) + 1 by omega, lng]
theorem zun {s : List UInt8} {a b c : Nat} (h : lng s 10 0 0 = (a, b, c)) : (a : Int) = zsa s /\ (b : Int) = zsb s /\ (c : Int) = zy4 s := by
 unfold zsa zsb zy4
 rw [h]
 exact ⟨rfl, rfl, rfl⟩
theorem ysi {s : List UInt8} {i n : Nat} (hx : zhv s (i, n)) (h : (i : Int) = (s.length : Int)) : 0 = zsa s /\ 0 = zsb s /\ 3 = zy4 s := by
 have := zhu hx
 rw [if_pos (by omega)] at this
 exact zun this
theorem zjd (s : List UInt8) (i : Nat) : ((s.getD i 0).toNat : Int) % 18446744073709551616 = (cb s i : Int) := by
 have := yho s i
 unfold cb at *
 omega
theorem ysh {s : List UInt8} {i n : Nat} (hx : zhv s (i, n)) (h : ¬ (i : Int) = (s.length : Int)) (h9 : (i : Int) = 9) (hc : 1 < ((s.getD i 0).toNat : Int) % 18446744073709551616) : 0 = zsa s /\ 0 = zsb s /\ 4 = zy4 s := by
 have := zhu hx
 have h1 := hx.1
 rw [zjd] at hc
 simp only at h1
 rw [if_neg (by omega), if_pos ⟨by omega, by omega⟩] at this
 exact zun this
theorem ypd {s : List UInt8} {i n : Nat} (hx : zhv s (i, n)) (h9 : ¬ (i = 9 /\ 1 < cb s i)) : bor .u64 (n : Int) (yea .u64 ((((s.getD i 0).toNat : Int) % 18446744073709551616).tmod 128) ((7 * (i : Int) + 9223372036854775808) % 18446744073709551616 - 9223372036854775808)) = ((n + cb s i % 128 * 2 ^ (7 * i) : Nat) : Int) := by
 have h1 := hx.2.1
 have h2 := hx.2.2.1
 simp only at h1 h2
 rw [zjd, Int.tmod_eq_emod_of_nonneg (by omega), show (7 * (i : Int) + 9223372036854775808) % 18446744073709551616 - 9223372036854775808 = 7 * (i : Int) by omega]
 exact ype h1 h2 (yho s i) h9
theorem ysg {s : List UInt8} {i n : Nat} (hx : zhv s (i, n)) (h : ¬ (i : Int) = (s.length : Int)) (h9 : ¬ (i = 9 /\ 1 < cb s i)) (hm : 128 <= ((s.getD i 0).toNat : Int) % 18446744073709551616) : zhv s (i + 1, n + cb s i % 128 * 2 ^ (7 * i)) /\ 10 - (i + 1) + 1 <= 10 - i /\ i <= 8 := by
 have h0 := zhu hx
 have h1 := hx.2.1
 have h2 := hx.2.2.1
 have h3 := hx.1
 rw [zjd] at hm
 simp only at h1 h2 h3
 rw [if_neg (by omega), if_neg h9, if_pos (by omega)] at h0
 refine ⟨⟨?_, ?_, (zo6 h1 h2 (yho s i) h9).1, ?_⟩, by omega, by omega⟩
 · simp only; omega
 · simp only; omega
 · simp only
   rw [h0]; congr 1; omega
theorem ygk {s : List UInt8} {i n : Nat} (hx : zhv s (i, n)) (h : ¬ (i : Int) = (s.length : Int)) (h9 : ¬ (i = 9 /\ 1 < cb s i)) (hm : ((s.getD i 0).toNat : Int) % 18446744073709551616 < 128) (hp : 0 < cb s i \/ i = 0) :
   bor .u64 (n : Int) (yea .u64 ((((s.getD i 0).toNat : Int) % 18446744073709551616).tmod 128) ((7 * (i : Int) + 9223372036854775808) % 18446744073709551616 - 9223372036854775808)) = zsa s /\
     ((i : Int) + 1 + 9223372036854775808) % 18446744073709551616 - 9223372036854775808 = zsb s /\ 0 = zy4 s := by
 have h0 := zhu hx
 have h1 := hx.2.1
 have h3 := hx.1
 rw [zjd] at hm
 simp only at h1 h3
 rw [if_neg (by omega), if_neg h9, if_neg (by omega), if_pos hp] at h0
 obtain ⟨e1, e2, e3⟩ := zun h0
 rw [ypd hx h9]
 exact ⟨e1, by rw [<- e2]; omega, e3⟩
theorem ypf {s : List UInt8} {i n : Nat} (hx : zhv s (i, n)) (h : ¬ (i : Int) = (s.length : Int)) (h9 : ¬ (i = 9 /\ 1 < cb s i)) (hm : ((s.getD i 0).toNat : Int) % 18446744073709551616 < 128) (hp : ((s.getD i 0).toNat : Int) % 18446744073709551616 <= 0)
   (h1 : ¬ ((i : Int) + 1 + 9223372036854775808) % 18446744073709551616 - 9223372036854775808 = 1) : 0 = zsa s /\ 0 = zsb s /\ 4 = zy4 s := by
 have h0 := zhu hx
 have h2 := hx.2.1
 have h3 := hx.1
 rw [zjd] at hm hp
 simp only at h2 h3
 rw [if_neg (by omega), if_neg h9, if_neg (by omega), if_neg (by omega)] at h0
 exact zun h0
def lngA (L : za9) (s : List UInt8) : Nat -> St -> Option Ann := fun id st => match id with
 | 0 => some ⟨Nat × Nat, fun x => [(6, .int .i64 (L za7 (L Prod.fst x))), (5, .int .u64 (L za7 (L Prod.snd x)))], fun _ => [], [0], [],
     fun x => L2 L zhv s x, fun x => L (fun x : Nat × Nat => 10 - x.1) x⟩
 | _ => none
def yl6 (L : za9) : zf3 := (51, fun xs => match xs with | [.str s] => some (True, .tup [.int .u64 (L zsa s), .int .i64 (L zsb s), .int .i64 (L zy4 s)]) | _ => none)
theorem ygj : zgv Try.prog (yl6 std) := by
 intro xs p r h hp
 dsimp only [yl6] at h |-
 split at h <;> cases h
 try simp only [L2, L3, std] at hp |-
 rename_i s
 refine zaj (T := tt) (S := noS) (lo := noA) (lb := fun L => lngA L s) 5 (fn := Try.f51) rfl rfl (by kernel_rfl) (by kernel_rfl) rfl zap (zix _) (by kernel_rfl) ?_
 intro L P' Q' hL hP hQ
 (cbv; try simp only [syT, true_and, and_true])
 refine ⟨fun x hx => ?_, ⟨(0, 0), ?_⟩⟩
 · cbv at hx
   obtain ⟨i, n⟩ := x
   (cbv; try simp only [syT, true_and, and_true])
   obtain ⟨m, hm'⟩ : ∃ m, m = n + cb s i % 128 * 2 ^ (7 * i) := ⟨_, rfl⟩
   refine ⟨fun h => ?_, fun h => ⟨?_, fun h9 => ⟨fun hc => ?_, fun hc => ⟨?_, ?_, fun hm => ⟨(i + 1, m), ?_⟩, fun hm => ⟨fun hp => ?_, fun hp => ⟨fun h1 => ?_, fun h1 => ?_⟩⟩⟩⟩,
     fun h9 => ⟨?_, ?_, fun hm => ⟨(i + 1, m), ?_⟩, fun hm => ⟨fun hp => ?_, fun hp => ⟨fun h1 => ?_, fun h1 => ?_⟩⟩⟩⟩⟩
   · (subst hL; subst hQ; simp only [L2, L3, std] at *; try simp only [syS, reduceCtorEq, Int.reduceToNat, Int.reduceAdd, Int.reduceSub] at *)
     exact ysi hx h
   · (subst hL; subst hQ; simp only [L2, L3, std] at *; try simp only [syS, reduceCtorEq, Int.reduceToNat, Int.reduceAdd, Int.reduceSub] at *)
     have := hx.1
     simp only at this
     omega
   · (subst hL; subst hQ; simp only [L2, L3, std] at *; try simp only [syS, reduceCtorEq, Int.reduceToNat, Int.reduceAdd, Int.reduceSub] at *)
     exact ysh hx h h9 hc
   · (subst hL; subst hQ; simp only [L2, L3, std] at *; try simp only [syS, reduceCtorEq, Int.reduceToNat, Int.reduceAdd, Int.reduceSub] at *)
     decide
   · (subst hL; subst hQ; simp only [L2, L3, std] at *; try simp only [syS, reduceCtorEq, Int.reduceToNat, Int.reduceAdd, Int.reduceSub] at *)
     have := hx.2.1
     simp only at this
     rw [Int.emod_eq_of_lt (by omega) (by omega)]
     omega
   · (cbv; try simp only [syT, true_and, and_true])
     (subst hL; subst hQ; simp only [L2, L3, std] at *; try simp only [syS, reduceCtorEq, Int.reduceToNat, Int.reduceAdd, Int.reduceSub] at *)
     rw [zjd] at hc
     exact absurd hm (by rw [zjd]; omega)
   · (subst hL; subst hQ; simp only [L2, L3, std] at *; try simp only [syS, reduceCtorEq, Int.reduceToNat, Int.reduceAdd, Int.reduceSub] at *)
     rw [zjd] at hc
     exact ygk hx h (by omega) hm (by rw [zjd] at hp; omega)
   · (subst hL; subst hQ; simp only [L2, L3, std] at *; try simp only [syS, reduceCtorEq, Int.reduceToNat, Int.reduceAdd, Int.reduceSub] at *)
     rw [zjd] at hc
     have := hx.2.1
     simp only at this
     exact ygk hx h (by omega) hm (by omega)
   · (subst hL; subst hQ; simp only [L2, L3, std] at *; try simp only [syS, reduceCtorEq, Int.reduceToNat, Int.reduceAdd, Int.reduceSub] at *)
     rw [zjd] at hc
     exact ypf hx h (by omega) hm hp h1
   · (subst hL; subst hQ; simp only [L2, L3, std] at *; try simp only [syS, reduceCtorEq, Int.reduceToNat, Int.reduceAdd, Int.reduceSub] at *)
     decide
   · (subst hL; subst hQ; simp only [L2, L3, std] at *; try simp only [syS, reduceCtorEq, Int.reduceToNat, Int.reduceAdd, Int.reduceSub] at *)
     have := hx.2.1
     simp only at this
     rw [Int.emod_eq_of_lt (by omega) (by omega)]
     omega
   · (cbv; try simp only [syT, true_and, and_true])
     (subst hL; subst hQ; simp only [L2, L3, std] at *; try simp only [syS, reduceCtorEq, Int.reduceToNat, Int.reduceAdd, Int.reduceSub] at *)
     obtain ⟨q1, q2, q3⟩ := ysg hx h (by omega) hm
     rw [ypd hx (by omega), hm']
     exact ⟨rfl, by omega, q1, q2⟩
   · (subst hL; subst hQ; simp only [L2, L3, std] at *; try simp only [syS, reduceCtorEq, Int.reduceToNat, Int.reduceAdd, Int.reduceSub] at *)
     exact ygk hx h (by omega) hm (by rw [zjd] at hp; omega)
   · (subst hL; subst hQ; simp only [L2, L3, std] at *; try simp only [syS, reduceCtorEq, Int.reduceToNat, Int.reduceAdd, Int.reduceSub] at *)
     have := hx.2.1
     simp only at this
     exact ygk hx h (by omega) hm (by omega)
   · (subst hL; subst hQ; simp only [L2, L3, std] at *; try simp only [syS, reduceCtorEq, Int.reduceToNat, Int.reduceAdd, Int.reduceSub] at *)
     exact ypf hx h (by omega) hm hp h1
 · (cbv; try simp only [syT, true_and, and_true])
   (subst hL; subst hQ; simp only [L2, L3, std] at *; try simp only [syS, reduceCtorEq, Int.reduceToNat, Int.reduceAdd, Int.reduceSub] at *)
   exact ⟨Nat.zero_le _, by omega, by simp, rfl⟩
theorem yq5 (p : List UInt8) (c : UInt8) (r : List UInt8) : cb (p ++ c :: r) p.length = c.toNat := by
 unfold cb
 rw [List.getD_eq_getElem?_getD, List.getElem?_append_right (Nat.le_refl _), Nat.sub_self]
 rfl
theorem zq3 (r : List UInt8) : ∀ (f m n0 : Nat) (p : List UInt8), f + p.length = 10 -> m * 2 ^ (7 * p.length) < 2 ^ 64 -> (0 < m \/ p.length = 0) ->
   lng (p ++ (zdv m ++ r)) f p.length n0 = (n0 + m * 2 ^ (7 * p.length), p.length + (zdv m).length, 0)
 | 0, m, n0, p, hf, hm, h0 => by
   have : p.length = 10 := by omega
   rw [this] at hm h0
   have : 2 ^ (7 * 10) <= m * 2 ^ (7 * 10) := Nat.le_mul_of_pos_left _ (by omega)
   omega
 | f + 1, m, n0, p, hf, hm, h0 => by
   by_cases hb : 128 <= m
   · rw [zgd hb]
     have hc : cb (p ++ (UInt8.ofNat (m % 128 + 128) :: zdv (m / 128) ++ r)) p.length = m % 128 + 128 := by
       rw [List.cons_append, yq5]
       simp; omega
     have h9 : p.length ≠ 9 := by
       intro h
       rw [h] at hm
       have : 128 * 2 ^ (7 * 9) <= m * 2 ^ (7 * 9) := Nat.mul_le_mul_right _ hb
       omega
     rw [lng, if_neg (by simp), hc, if_neg (by omega), if_pos (by omega)]
     have e : p ++ (UInt8.ofNat (m % 128 + 128) :: zdv (m / 128) ++ r) = (p ++ [UInt8.ofNat (m % 128 + 128)]) ++ (zdv (m / 128) ++ r) := by simp
     have hl : (p ++ [UInt8.ofNat (m % 128 + 128)]).length = p.length + 1 := by simp
     have hp : 2 ^ (7 * (p.length + 1)) = 128 * 2 ^ (7 * p.length) := by rw [show 7 * (p.length + 1) = 7 + 7 * p.length by omega, Nat.pow_add]
     have hd : m / 128 * (128 * 2 ^ (7 * p.length)) + m % 128 * 2 ^ (7 * p.length) = m * 2 ^ (7 * p.length) := by
       rw [<- Nat.mul_assoc, <- Nat.add_mul]
       congr 1; omega
     have ih := zq3 r f (m / 128) (n0 + (m % 128 + 128) % 128 * 2 ^ (7 * p.length)) (p ++ [UInt8.ofNat (m % 128 + 128)]) (by rw [hl]; omega) (by rw [hl, hp]; omega) (.inl (by omega))
     rw [hl] at ih
     rw [e, ih, hp, List.length_cons, show (m % 128 + 128) % 128 = m % 128 by omega]
     refine Prod.ext ?_ (Prod.ext ?_ rfl)
     · show n0 + m % 128 * 2 ^ (7 * p.length) + m / 128 * (128 * 2 ^ (7 * p.length)) = n0 + m * 2 ^ (7 * p.length)
       omega
     · show p.length + 1 + _ = p.length + (_ + 1)
       omega
   · rw [zdl (by omega)]
     have hc : cb (p ++ ([UInt8.ofNat m] ++ r)) p.length = m := by
       rw [List.singleton_append, yq5]
       simp; omega
     have h9 : ¬ (p.length = 9 /\ 1 < m) := by
       rintro ⟨h, h1⟩
       rw [h] at hm
       have : 2 * 2 ^ (7 * 9) <= m * 2 ^ (7 * 9) := Nat.mul_le_mul_right _ h1
       omega
     rw [lng, if_neg (by simp), hc, if_neg h9, if_neg (by omega), if_pos h0, Nat.mod_eq_of_lt (by omega)]
     rfl
theorem yin {m : Int} (h : zig m) (r : List UInt8) : zsa (zdu m ++ r) = m /\ zsb (zdu m ++ r) = ((zdu m).length : Int) /\ zy4 (zdu m ++ r) = 0 := by
 have h0 := h.1
 have h1 := h.2
 have := zq3 r 10 m.toNat 0 [] rfl (by simp; omega) (.inr rfl)
 simp only [List.nil_append, List.length_nil, Nat.zero_add, Nat.mul_zero, Nat.pow_zero, Nat.mul_one] at this
 unfold zsa zsb zy4 zdu
 rw [this]
 refine ⟨?_, rfl, rfl⟩
 show ((m.toNat : Nat) : Int) = m
 omega
theorem zuo {s : List UInt8} : ∀ (f i n : Nat), f + i = 10 -> n < 2 ^ (7 * i) -> i <= s.length -> (lng s f i n).2.1 <= 10 /\ ((lng s f i n).2.2 = 0 -> 1 <= (lng s f i n).2.1 /\ (lng s f i n).2.1 <= s.length /\ (lng s f i n).1 < 2 ^ 64)
 | 0, i, n, hf, hn, hi => by simp [lng]
 | f + 1, i, n, hf, hn, hi => by
   rw [lng]
   by_cases h1 : s.length <= i
   · rw [if_pos h1]; simp
   · rw [if_neg h1]
     by_cases h2 : i = 9 /\ 1 < cb s i
     · rw [if_pos h2]; simp
     · rw [if_neg h2]
       have hb := zo6 (by omega) hn (yho s i) h2
       by_cases h3 : 128 <= cb s i
       · rw [if_pos h3]
         by_cases h9 : i = 9
         · omega
         · exact zuo f (i + 1) _ (by omega) hb.1 (by omega)
       · rw [if_neg h3]
         by_cases h4 : 0 < cb s i \/ i = 0
         · rw [if_pos h4]
           exact ⟨by show i + 1 <= 10; omega, fun _ => ⟨by show 1 <= i + 1; omega, by show i + 1 <= s.length; omega, hb.2.1⟩⟩
         · rw [if_neg h4]; simp
theorem yl5 {s : List UInt8} (h : zy4 s = 0) : 1 <= zsb s /\ zsb s <= (s.length : Int) /\ 0 <= zsa s /\ zsa s < 18446744073709551616 := by
 have := (zuo (s := s) 10 0 0 rfl (by simp) (Nat.zero_le _)).2
 unfold zy4 at h
 unfold zsb zsa
 have := this (by omega)
 omega
def cpT (a b : List UInt8) : List UInt8 := if yed a b = true then a.drop b.length else a
def yma (L : za9) : zf3 := (59, fun xs => match xs with | [.str a, .str b] => some (L2 L yaq a b, .tup [.str (L2 L cpT a b), .bool (L2 L yed a b)]) | _ => none)
def yt0 (L : za9) : zf3 := (50, fun xs => match xs with | [.str a, .str b] => some (L2 L yaq a b, .tup [.str (L2 L cpT a b), .bool (L2 L yed a b)]) | _ => none)
theorem yap {a b : List UInt8} (h : yed a b = true) : b.length <= a.length := by
 have h : a.take b.length = b := by simpa [yed] using h
 have := congrArg List.length h
 simp at this
 omega
theorem yhk : zgv Try.prog (yma std) := by
 intro xs p r h hp
 dsimp only [yma] at h |-
 split at h <;> cases h
 try simp only [L2, L3, std] at hp |-
 rename_i a b
 obtain ⟨p1, p2⟩ : yaq a b := hp
 refine zaj (T := tt) (S := fun L => zdq [ztr L]) (lo := noA) (lb := noA) 5 (fn := Try.f59) rfl rfl (by kernel_rfl) (by kernel_rfl) rfl zap (zav ⟨zpn, trivial⟩) (by kernel_rfl) ?_
 (intro L P1 Q1 hL hP hQ; cbv; subst hL; simp only [L2, L3, std, syT]; subst hQ)
 (simp only [syS, reduceCtorEq, Int.reduceToNat, Int.reduceAdd, Int.reduceSub])
 refine ⟨⟨p1, p2⟩, fun h => ⟨(if_neg (by rw [h]; decide)).symm, h.symm⟩, fun h => ⟨⟨by omega, ?_⟩, (if_pos h).symm, h.symm⟩⟩
 have := yap h
 omega
theorem ym9 : zgv Try.prog (yt0 std) := by
 intro xs p r h hp
 dsimp only [yt0] at h |-
 split at h <;> cases h
 try simp only [L2, L3, std] at hp |-
 rename_i a b
 refine zaj (T := tt) (S := fun L => zdq [yma L]) (lo := noA) (lb := noA) 5 (fn := Try.f50) rfl rfl (by kernel_rfl) (by kernel_rfl) rfl zap (zav ⟨yhk, trivial⟩) (by kernel_rfl) ?_
 (intro L P1 Q1 hL hP hQ; cbv; subst hL; simp only [L2, L3, std, syT]; subst hQ)
 (simp only [syS, reduceCtorEq, Int.reduceToNat, Int.reduceAdd, Int.reduceSub])
 exact hp
def slH (t : List UInt8) : List UInt8 := yec (yec [79, 84] (zdu (t.length : Int))) t
def slT (t : List UInt8) : List UInt8 := slH t ++ (zwq (slH t)).take 16
def slS (s t : List UInt8) : Bool := slT t == s
def opT (s : List UInt8) : List UInt8 := (s.drop (2 + (zsb (s.drop 2)).toNat)).take (zsa (s.drop 2)).toNat
def opB (s : List UInt8) : Bool := slS s (opT s)
def opV (s : List UInt8) : List UInt8 := if opB s = true then opT s else []
def opE (s : List UInt8) : Int := if opB s = true then 0 else 23
theorem yan (s : List UInt8) : ((zwq s).take 16).length = 16 := by rw [List.length_take, zjk]; rfl
theorem zd7 (t : List UInt8) (h : t.length <= 1000000) : zig (t.length : Int) := ⟨by omega, by omega⟩
theorem zyz (t : List UInt8) : (slH t).length = 2 + (zdu (t.length : Int)).length + t.length := by simp [slH, yec]; omega
theorem zne (t : List UInt8) : (slT t).length = 2 + (zdu (t.length : Int)).length + t.length + 16 := by rw [slT, List.length_append, zyz, yan]
theorem znf (t : List UInt8) : (slT t).drop 2 = zdu (t.length : Int) ++ (t ++ (zwq (slH t)).take 16) := by simp [slT, slH, yec]
theorem yoy (t : List UInt8) (h : t.length <= 1000000) : opT (slT t) = t := by
 obtain ⟨e1, e2, e3⟩ := yin (zd7 t h) (t ++ (zwq (slH t)).take 16)
 rw [opT, znf, e1, e2]
 have e : (slT t).drop (2 + ((zdu (t.length : Int)).length : Int).toNat) = t ++ (zwq (slH t)).take 16 := by
   rw [<- List.drop_drop, znf, Int.toNat_natCast, List.drop_left]
 rw [e, Int.toNat_natCast, List.take_left]
theorem yid (t : List UInt8) (h : t.length <= 1000000) : opB (slT t) = true := by
 rw [opB, yoy t h, slS]; simp
theorem yay {s : List UInt8} (h : opB s = true) : slT (opT s) = s := by simpa [opB, slS] using h
theorem yib (t : List UInt8) (h : t.length <= 1000000) : opV (slT t) = t := by rw [opV, if_pos (yid t h), yoy t h]
theorem yic (t : List UInt8) (h : t.length <= 1000000) : opE (slT t) = 0 := by rw [opE, if_pos (yid t h)]
def zpa (L : za9) : zf3 := (40, fun xs => match xs with | [.str t] => some (L2 L upto 100000 t, .str (L slT t)) | _ => none)
theorem zk9 : zgv Try.prog (zpa std) := by
 intro xs p r h hp
 dsimp only [zpa] at h |-
 split at h <;> cases h
 try simp only [L2, L3, std] at hp |-
 rename_i t
 have hl : t.length <= 100000 := hp
 refine zaj (T := tt) (S := fun L => zdq [znh L, ztc L]) (lo := noA) (lb := noA) 5 (fn := Try.f40) rfl rfl (by kernel_rfl) (by kernel_rfl) rfl zap (zav ⟨zm7, zp7, trivial⟩) (by kernel_rfl) ?_
 (intro L P1 Q1 hL hP hQ; cbv; subst hL; simp only [L2, L3, std, syT]; subst hQ)
 have hk := zd7 t (by omega)
 have hz := zgc hk
 have e1 : IntKind.u64.wrap (slen t) = (t.length : Int) := by rw [zyg, slen]; omega
 rw [e1, yey]
 have hs := zyz t
 have e2 : yec (yec [79, 84] (zdu (t.length : Int))) t = slH t := rfl
 rw [e2]
 refine ⟨hk, ?_, ?_, ygx _ (by omega), ?_, ?_, ?_⟩
 · rw [zor, List.length_cons, List.length_cons, List.length_nil]; omega
 · rw [zor, yec, List.length_append, List.length_cons, List.length_cons, List.length_nil]; omega
 · rw [ylj, slen, zjk]; decide
 · rw [zor, List.length_take, zjk]; omega
 · rw [zi4]; rfl
def ztz (L : za9) : zf3 := (39, fun xs => match xs with | [.str s] => some (L2 L upto 100000 s, .tup [.str (L opV s), .int .i64 (L opE s)]) | _ => none)
theorem yia (s : List UInt8) : (opT s).length <= s.length := by
 rw [opT, List.length_take, List.length_drop]; omega
theorem zs0 {s : List UInt8} (h : opB s = true) (hs : s.length <= 1000000) : yed s [79, 84] = true /\ zy4 (s.drop 2) = 0 /\ zsa (s.drop 2) = ((opT s).length : Int) /\ zsb (s.drop 2) = ((zdu ((opT s).length : Int)).length : Int) /\ s.length = 2 + (zdu ((opT s).length : Int)).length + (opT s).length + 16 := by
 have hl := yia s
 obtain ⟨e1, e2, e3⟩ := yin (zd7 (opT s) (by omega)) (opT s ++ (zwq (slH (opT s))).take 16)
 rw [<- znf, yay h] at e1 e2 e3
 have hn := zne (opT s)
 rw [yay h] at hn
 refine ⟨?_, e3, e1, e2, hn⟩
 rw [<- yay h]
 rfl
theorem yoz {s : List UInt8} (h : ¬ slT (opT s) = s) : opB s = false := by
 unfold opB slS
 simpa using h
theorem yfv {s : List UInt8} (h : opB s = false) : [] = opV s /\ 23 = opE s := by
 rw [opV, opE, if_neg (by rw [h]; decide), if_neg (by rw [h]; decide)]
 exact ⟨rfl, rfl⟩
theorem zpv : zgv Try.prog (ztz std) := by
 intro xs p r h hp
 dsimp only [ztz] at h |-
 split at h <;> cases h
 try simp only [L2, L3, std] at hp |-
 rename_i s
 have hl : s.length <= 100000 := hp
 refine zaj (T := tt) (S := fun L => zdq [yt0 L, yl6 L, zpa L]) (lo := noA) (lb := noA) 5 (fn := Try.f39) rfl rfl (by kernel_rfl) (by kernel_rfl) rfl zap (zav ⟨ym9, ygj, zk9, trivial⟩) (by kernel_rfl) ?_
 (intro L P1 Q1 hL hP hQ; cbv; subst hL; simp only [L2, L3, std, syT]; subst hQ)
 (simp only [syS, reduceCtorEq, Int.reduceToNat, Int.reduceAdd, Int.reduceSub])
 refine ⟨⟨by omega, by decide⟩, fun hpre => yfv (by
   cases h : opB s with
   | false => rfl
   | true => rw [(zs0 h (by omega)).1] at hpre; cases hpre), fun hpre => ?_⟩
 have hr : cpT s [79, 84] = s.drop 2 := if_pos hpre
 have hlen := yap hpre
 have hlen : 2 <= s.length := hlen
 rw [hr]
 have hdl : (s.drop 2).length = s.length - 2 := List.length_drop
 refine ⟨fun he => yfv (by
   cases h : opB s with
   | false => rfl
   | true => exact absurd (zs0 h (by omega)).2.1 he), fun he => ⟨fun hn => yfv (by
   cases h : opB s with
   | false => rfl
   | true =>
     obtain ⟨_, _, h1, h2, h3⟩ := zs0 h (by omega)
     exfalso
     apply hn
     rw [h1, h2, hdl]
     omega), fun hn => ?_⟩⟩
 obtain ⟨k1, k2, n1, n2⟩ := yl5 he
 rw [hdl] at hn k2 |-
 generalize hK : zsb (s.drop 2) = K at hn k1 k2 |-
 generalize hN : zsa (s.drop 2) = N at hn n1 n2 |-
 have eN : (K + ((N + 9223372036854775808) % 18446744073709551616 - 9223372036854775808) + 9223372036854775808) % 18446744073709551616 - 9223372036854775808 = K + N := by omega
 rw [eN]
 have et : List.drop K.toNat (List.take (K + N).toNat (s.drop 2)) = opT s := by
   rw [opT, hK, hN, <- List.drop_drop, List.drop_take]
   congr 1; omega
 rw [et]
 have := yia s
 refine ⟨⟨by omega, by omega, by omega⟩, (show (opT s).length <= 100000 by omega), fun h => ?_, fun h => yfv (yoz h)⟩
 have hb : opB s = true := by rw [opB, slS, h]; simp
 rw [opV, opE, if_pos hb, if_pos hb]
 exact ⟨rfl, rfl⟩
def yly : zf3 := (44, fun xs => match xs with | [] => some (True, .int .i64 4) | _ => none)
theorem yh7 : zgv Try.prog yly := by
 intro xs p r h hp
 dsimp only [yly] at h |-
 split at h <;> cases h
 try simp only [L2, L3, std] at hp |-
 refine zaj (T := tt) (S := noS) (lo := noA) (lb := noA) 5 (fn := Try.f44) rfl rfl (by kernel_rfl) (by kernel_rfl) rfl zap (zix _) (by kernel_rfl) ?_
 (intro L P1 Q1 hL hP hQ; cbv; subst hL; simp only [L2, L3, std, syT]; subst hQ)
 (simp only [syS, reduceCtorEq, Int.reduceToNat, Int.reduceAdd, Int.reduceSub])
theorem zy2 : zbk Try.prog 42 [] (.bool true) := by
 refine zaj (T := tt) (S := fun L => zdq [tru 55]) (lo := noA) (lb := noA) 5 (fn := Try.f42) rfl rfl (by kernel_rfl) (by kernel_rfl) rfl zap (zav ⟨zec zxv, trivial⟩) (by kernel_rfl) ?_
 (intro L P1 Q1 hL hP hQ; cbv; subst hL; simp only [L2, L3, std, syT]; subst hQ)
 (simp only [syS, reduceCtorEq, Int.reduceToNat, Int.reduceAdd, Int.reduceSub])
theorem zy1 : zbk Try.prog 43 [] (.bool true) := by
 refine zaj (T := tt) (S := fun L => zdq [tru 7]) (lo := noA) (lb := noA) 5 (fn := Try.f43) rfl rfl (by kernel_rfl) (by kernel_rfl) rfl zap (zav ⟨zec zxu, trivial⟩) (by kernel_rfl) ?_
 (intro L P1 Q1 hL hP hQ; cbv; subst hL; simp only [L2, L3, std, syT]; subst hQ)
 (simp only [syS, reduceCtorEq, Int.reduceToNat, Int.reduceAdd, Int.reduceSub])
theorem zxt : zbk Try.prog 22 [] (.bool true) := by
 refine zaj (T := tt) (S := fun L => zdq [zpa L, ztz L, yly, tru 41, tru 42, tru 43]) (lo := noA) (lb := noA) 5 (fn := Try.f22) rfl rfl (by kernel_rfl) (by kernel_rfl) rfl zap (zav ⟨zk9, zpv, yh7, zec zn4, zec zy2, zec zy1, trivial⟩) (by kernel_rfl) ?_
 (intro L P1 Q1 hL hP hQ; cbv; subst hL; simp only [L2, L3, std, syT]; subst hQ)
 have e1 : opV (slT [97]) = [97] := yib [97] (by decide)
 have e2 : opE (slT [97]) = 0 := yic [97] (by decide)
 have h1 : upto 100000 [97] := by show [97].length <= 100000; decide
 have hk := zgc (zd7 [97] (by decide))
 have h2 : upto 100000 (slT [97]) := by
   have := zne [97]
   show (slT [97]).length <= 100000
   have e : [(97 : UInt8)].length = 1 := rfl
   omega
 rw [e1, e2]
 have q1 : ieq 0 0 = true := by decide
 have q2 : seq [97] [97] = true := by decide
 have q3 : ieq 4 4 = true := by decide
 simp [h1, h2, q1, q2, q3, zck]
def sv1 (x : Dk) (sp t : List UInt8) : Dk := zf0 x sp (slT t)
def yew (x : Dk) (sp t : List UInt8) : Int := zp4 x sp (slT t)
def sv2 (x : Dk) (sp t : List UInt8) : Dk := zcg (sv1 x sp t) sp
def zy3 (x : Dk) (sp t : List UInt8) : Int := zcp (sv1 x sp t) sp
def sv3 (x : Dk) (nm sp t : List UInt8) : Dk := zke (sv2 x sp t) sp nm
def zyt (x : Dk) (nm sp t : List UInt8) : Int := zp0 (sv2 x sp t) sp nm
def zj8 (x : Dk) (nm sp t : List UInt8) : Dk :=
 if 16384 < t.length then x else if nm = sp then x else if yew x sp t ≠ 0 then sv1 x sp t else if zy3 x sp t ≠ 0 then sv2 x sp t else if zyt x nm sp t ≠ 0 then sv3 x nm sp t else ze4 (sv3 x nm sp t)
def zlm (x : Dk) (nm sp t : List UInt8) : Int :=
 if 16384 < t.length then 5 else if nm = sp then 2 else if yew x sp t ≠ 0 then yew x sp t else if zy3 x sp t ≠ 0 then zy3 x sp t else if zyt x nm sp t ≠ 0 then zyt x nm sp t else zj7 (sv3 x nm sp t)
theorem ya7 (x : Dk) (fr to_ : List UInt8) : zb5 (zke x fr to_).nd = zb5 x.nd := by
 obtain ⟨e1, e2, e3, e4, e5⟩ := zby x
 unfold zke zb5
 split
 · split
   · show (zal x).nd.length = _
     rw [e1]
   · rw [e1]
 · rfl
theorem yek (x : Dk) (s t : List UInt8) : (zf0 x s t).pend.length <= x.pend.length + 1 := by
 obtain ⟨e1, e2, e3, e4, e5⟩ := zby x
 unfold zf0
 split
 · split
   · split
     · show (zal x).pend.length <= _
       rw [e4]; exact Nat.le_succ _
     · show ((zal x).pend ++ [_]).length <= _
       rw [e4, List.length_append]; exact Nat.le_refl _
   · rw [e4]; exact Nat.le_succ _
 · exact Nat.le_succ _
theorem yev (x : Dk) (s : List UInt8) : (zcg x s).pend = x.pend := by
 obtain ⟨e1, e2, e3, e4, e5⟩ := zby x
 unfold zcg
 split
 · split
   · exact e4
   · exact e4
 · rfl
theorem yjv {t : List UInt8} (h : t.length <= 16384) : (slT t).length <= 17000 := by
 have := zne t
 have hk := zgc (zd7 t (by omega))
 omega
def yi7 (x : Dk) : Prop := x.pend.length <= 900000
def yk6 (L : za9) : zeb := (23, fun raw ob => match raw with
 | [.ref id 0, .str nm, .str sp, .str t] => match rdS L ob id with
   | some x => some ⟨[.ref 500000 0, .str nm, .str sp, .str t], dpO L x, L yi7 x /\ L zbm nm /\ L zbm sp, .int .i64 (L (L3 L zlm x nm sp) t), dpX L 500000 500001 12 13 (L (L3 L zj8 x nm sp) t)⟩
   | _ => none
 | _ => none)
theorem yod (x : Dk) (nm sp t : List UInt8) (hp : yi7 x) (hn : zbm nm) (hs : zbm sp) : zat Try.prog 23 [.ref 500000 0, .str nm, .str sp, .str t] (dpO std x) (.int .i64 (zlm x nm sp t)) (dpX std 500000 500001 12 13 (zj8 x nm sp t)) := by
 refine zad (T := tt) (S := fun L => zaz [zpa L] [yj7 L, zyr L, yki L, ztm L]) (lo := noA) (lb := noA) 8 (fn := Try.f23) (xs := fun L => [.ref 500000 0, .str nm, .str sp, .str t]) (rts := fun L => [.int .i64 (L (L3 L zlm x nm sp) t)]) (O := fun L => dpO L x) (O1 := fun L => dpX L 500000 500001 12 13 (L (L3 L zj8 x nm sp) t))
   rfl rfl (by kernel_rfl) (by kernel_rfl) (by kernel_rfl) zap (za6 ⟨zk9, trivial⟩ ⟨zy9, zvl, yad, zma, trivial⟩) (by kernel_rfl) ?_
 intro L P' Q' hL hP hQ
 have hE : ∀ x : Dk, L zpm ⟨L Dk.room x, L Dk.names x, L Dk.sure x, L zgt (L Dk.pend x), fun q => tnC L (L (L zc1 (L Dk.pend x)) q), L zb5 (L Dk.nd x), fun k _ => ndC L (L (L za4 (L Dk.nd x)) k), L Dk.steps x, L Dk.fuse x, L Dk.down x⟩ = x := by subst hL; exact zjb
 (cbv; try simp only [syT, true_and, and_true])
 simp only [hE, true_and]
 subst hL
 simp only [std]
 have l1 : zb5 x.nd <= zb5 (zf0 x sp (slT t)).nd := zt5 _ _ _
 have l2 : zb5 (zf0 x sp (slT t)).nd <= zb5 (zcg (zf0 x sp (slT t)) sp).nd := Nat.le_of_eq (ztg _ _).symm
 have l3 : zb5 (zcg (zf0 x sp (slT t)) sp).nd <= zb5 (zke (zcg (zf0 x sp (slT t)) sp) sp nm).nd := Nat.le_of_eq (ya7 _ _ _).symm
 have l4 : zb5 (zke (zcg (zf0 x sp (slT t)) sp) sp nm).nd <= zb5 (ze4 (zke (zcg (zf0 x sp (slT t)) sp) sp nm)).nd := Nat.le_of_eq (zji _).symm
 have l12 := Nat.le_trans l1 l2
 have l13 := Nat.le_trans l12 l3
 have l14 := Nat.le_trans l13 l4
 have l23 := Nat.le_trans l2 l3
 have l24 := Nat.le_trans l23 l4
 have l34 := Nat.le_trans l3 l4
 have tr : ∀ {n : Nat} {q : Nat} {p : Prop}, p -> ((∀ (k : Nat), k < n -> True) /\ ∀ (k i j : Nat), k < n -> i < 1 -> j < 2 -> True) /\ (∀ (i j : Nat), i < q -> j < 4 -> True) /\ p := fun h => ⟨⟨fun _ _ => trivial, fun _ _ _ _ _ _ => trivial⟩, fun _ _ _ _ => trivial, h⟩
 refine ⟨fun h1 => ?_, fun h1 => ⟨fun h2 => ?_, fun h2 => ?_⟩⟩
 · have h1 : 16384 < t.length := by
     rw [zfr] at h1; unfold slen at h1; omega
   have hD : zj8 x nm sp t = x := by
     unfold zj8
     simp [h1]
   have hZ : zlm x nm sp t = 5 := by
     unfold zlm
     first
       | (simp [h1]; done)
       | (simp [h1]; rfl)
   rw [hD, hZ]
   repeat' (first | exact Nat.le_refl _ | exact l1 | exact l2 | exact l3 | exact l4 | exact l12 | exact l13 | exact l14 | exact l23 | exact l24 | exact l34 | exact trivial | exact rfl | refine And.intro ?_ ?_ | intro _)
 · have h1 : ¬ 16384 < t.length := by
     rw [zl3] at h1; unfold slen at h1; omega
   rw [zvq] at h2
   have hD : zj8 x nm sp t = x := by
     unfold zj8
     simp [h1, h2]
   have hZ : zlm x nm sp t = 2 := by
     unfold zlm
     first
       | (simp [h1, h2]; done)
       | (simp [h1, h2]; rfl)
   rw [hD, hZ]
   repeat' (first | exact Nat.le_refl _ | exact l1 | exact l2 | exact l3 | exact l4 | exact l12 | exact l13 | exact l14 | exact l23 | exact l24 | exact l34 | exact trivial | exact rfl | refine And.intro ?_ ?_ | intro _)
 · have h1 : ¬ 16384 < t.length := by
     rw [zl3] at h1; unfold slen at h1; omega
   rw [zvr] at h2
   have hb := yjv (t := t) (by omega)
   have hp : x.pend.length <= 900000 := hp
   have hp2 : (zcg (zf0 x sp (slT t)) sp).pend.length <= 1000000 := by
     rw [yev]
     have := yek x sp (slT t)
     omega
   refine ⟨?_, l1, tr ⟨⟨?_, hs, ?_⟩, fun h3 => ?_, fun h3 => ⟨l2, tr ⟨fun h4 => ?_, fun h4 => ⟨l3, tr ⟨⟨hp2, hn⟩, fun h5 => ?_, fun h5 => ⟨l4, tr ?_⟩⟩⟩⟩⟩⟩⟩
   · show t.length <= 100000; omega
   · show x.pend.length <= 1000000; omega
   · show (slT t).length <= 100000; omega
   · have h3 : yew x sp t ≠ 0 := by rw [zsf] at h3; exact h3
     have hD : zj8 x nm sp t = zf0 x sp (slT t) := by
       unfold zj8
       simp [h1, h2, h3, sv1]
     have hZ : zlm x nm sp t = zp4 x sp (slT t) := by
       unfold zlm
       first
         | (simp [h1, h2, h3, sv1]; done)
         | (simp [h1, h2, h3, sv1]; rfl)
     rw [hD, hZ]
     repeat' (first | exact Nat.le_refl _ | exact l1 | exact l2 | exact l3 | exact l4 | exact l12 | exact l13 | exact l14 | exact l23 | exact l24 | exact l34 | exact trivial | exact rfl | refine And.intro ?_ ?_ | intro _)
   · have h3 : yew x sp t = 0 := by rw [zlw] at h3; exact h3
     have h4 : zy3 x sp t ≠ 0 := by rw [zsf] at h4; exact h4
     have hD : zj8 x nm sp t = zcg (zf0 x sp (slT t)) sp := by
       unfold zj8
       simp [h1, h2, h3, h4, sv2, sv1]
     have hZ : zlm x nm sp t = zcp (zf0 x sp (slT t)) sp := by
       unfold zlm
       first
         | (simp [h1, h2, h3, h4, sv2, sv1]; done)
         | (simp [h1, h2, h3, h4, sv2, sv1]; rfl)
     rw [hD, hZ]
     repeat' (first | exact Nat.le_refl _ | exact l1 | exact l2 | exact l3 | exact l4 | exact l12 | exact l13 | exact l14 | exact l23 | exact l24 | exact l34 | exact trivial | exact rfl | refine And.intro ?_ ?_ | intro _)
   · have h3 : yew x sp t = 0 := by rw [zlw] at h3; exact h3
     have h4 : zy3 x sp t = 0 := by rw [zlw] at h4; exact h4
     have h5 : zyt x nm sp t ≠ 0 := by rw [zsf] at h5; exact h5
     have hD : zj8 x nm sp t = zke (zcg (zf0 x sp (slT t)) sp) sp nm := by
       unfold zj8
       simp [h1, h2, h3, h4, h5, sv3, sv2, sv1]
     have hZ : zlm x nm sp t = zp0 (zcg (zf0 x sp (slT t)) sp) sp nm := by
       unfold zlm
       first
         | (simp [h1, h2, h3, h4, h5, sv3, sv2, sv1]; done)
         | (simp [h1, h2, h3, h4, h5, sv3, sv2, sv1]; rfl)
     rw [hD, hZ]
     repeat' (first | exact Nat.le_refl _ | exact l1 | exact l2 | exact l3 | exact l4 | exact l12 | exact l13 | exact l14 | exact l23 | exact l24 | exact l34 | exact trivial | exact rfl | refine And.intro ?_ ?_ | intro _)
   · have h3 : yew x sp t = 0 := by rw [zlw] at h3; exact h3
     have h4 : zy3 x sp t = 0 := by rw [zlw] at h4; exact h4
     have h5 : zyt x nm sp t = 0 := by rw [zlw] at h5; exact h5
     have hD : zj8 x nm sp t = ze4 (zke (zcg (zf0 x sp (slT t)) sp) sp nm) := by
       unfold zj8
       simp [h1, h2, h3, h4, h5, sv3, sv2, sv1]
     have hZ : zlm x nm sp t = zj7 (zke (zcg (zf0 x sp (slT t)) sp) sp nm) := by
       unfold zlm
       first
         | (simp [h1, h2, h3, h4, h5, sv3, sv2, sv1]; done)
         | (simp [h1, h2, h3, h4, h5, sv3, sv2, sv1]; rfl)
     rw [hD, hZ]
     repeat' (first | exact Nat.le_refl _ | exact l1 | exact l2 | exact l3 | exact l4 | exact l12 | exact l13 | exact l14 | exact l23 | exact l24 | exact l34 | exact trivial | exact rfl | refine And.intro ?_ ?_ | intro _)
theorem ya2 : zbt Try.prog (yk6 std) := by
 intro raw ob T hT hp
 unfold yk6 at hT
 simp only at hT
 repeat' split at hT
 all_goals first | (cases hT; done) | (cases hT; exact yod _ _ _ _ hp.1 hp.2.1 hp.2.2)
def ziz (x : Dk) (s : List UInt8) : Int := if thE x s = 0 then opE (zij x s) else thE x s
def zjo (x : Dk) (s : List UInt8) : List UInt8 := if thE x s = 0 then opV (zij x s) else []
def zx5 (x : Dk) (s : List UInt8) : Prop := (zij x s).length <= 100000
def yl4 (L : za9) : zeb := (25, fun raw ob => match raw with
 | [.ref id 0, .str s] => match rdS L ob id with
   | some x => some ⟨[.ref 500000 0, .str s], dpO L x, L2 L zx5 x s, .tup [.str (L2 L zjo x s), .int .i64 (L2 L ziz x s)], dpO L x⟩
   | _ => none
 | _ => none)
theorem ypc (x : Dk) (s : List UInt8) (hp : zx5 x s) : zat Try.prog 25 [.ref 500000 0, .str s] (dpO std x) (.tup [.str (zjo x s), .int .i64 (ziz x s)]) (dpO std x) := by
 refine zad (T := tt) (S := fun L => zaz [ztz L] [yai L]) (lo := noA) (lb := noA) 8 (fn := Try.f25) (xs := fun L => [.ref 500000 0, .str s]) (rts := fun L => [.str (L2 L zjo x s), .int .i64 (L2 L ziz x s)]) (O := fun L => dpO L x) (O1 := fun L => dpO L x)
   rfl rfl (by kernel_rfl) (by kernel_rfl) (by kernel_rfl) zap (za6 ⟨zpv, trivial⟩ ⟨zwo, trivial⟩) (by kernel_rfl) ?_
 intro L P' Q' hL hP hQ
 have hE : ∀ x : Dk, L zpm ⟨L Dk.room x, L Dk.names x, L Dk.sure x, L zgt (L Dk.pend x), fun q => tnC L (L (L zc1 (L Dk.pend x)) q), L zb5 (L Dk.nd x), fun k _ => ndC L (L (L za4 (L Dk.nd x)) k), L Dk.steps x, L Dk.fuse x, L Dk.down x⟩ = x := by subst hL; exact zjb
 (cbv; try simp only [syT, true_and, and_true])
 simp only [hE, true_and]
 subst hL
 simp only [std]
 refine ⟨Nat.le_refl _, ⟨fun _ _ => trivial, fun _ _ _ _ _ _ => trivial⟩, fun _ _ _ _ => trivial, fun h => ?_, fun h => ⟨hp, ?_⟩⟩
 · have h : ¬ thE x s = 0 := by rw [zsf] at h; exact h
   have h1 : ziz x s = thE x s := if_neg h
   have h2 : zjo x s = [] := if_neg h
   rw [h1, h2]
   repeat' (first | exact Nat.le_refl _ | exact trivial | exact rfl | refine And.intro ?_ ?_ | intro _)
 · have h : thE x s = 0 := by rw [zlw] at h; exact h
   have h1 : ziz x s = opE (zij x s) := if_pos h
   have h2 : zjo x s = opV (zij x s) := if_pos h
   rw [h1, h2]
   repeat' (first | exact Nat.le_refl _ | exact trivial | exact rfl | refine And.intro ?_ ?_ | intro _)
theorem ybx : zbt Try.prog (yl4 std) := by
 intro raw ob T hT hp
 unfold yl4 at hT
 simp only at hT
 repeat' split at hT
 all_goals first | (cases hT; done) | (cases hT; exact ypc _ _ hp)
def xtU (b : Int) (i q : Nat) : Int := if q < i then b else 0
def xtA (n b : Int) : List UInt8 := zay (zoy n) (fun _ => b)
def xtL (L : za9) (n b : Int) : Nat -> St -> Option Ann := fun id st => match id with
 | 0 => some ⟨Nat, fun i => [(11, .int .i64 (L za7 i))], fun i => [(8, .row 5 1 (L zoy n) (fun q _ => .int .u8 (L3 L xtU b i q)))], [1, 3, 10], [1],
     fun i => L2 L Nat.le i (L zoy n), fun i => L2 L Nat.sub (L zoy n) i⟩
 | _ => none
def zrg (L : za9) : zf3 := (24, fun xs => match xs with
 | [.agg [.str a, .str t, .int .u16 n, .int .u8 b, .bool c, .int .i8 f]] => some (L yqp n, .str (L2 L xtA n b))
 | _ => none)
theorem zvi : zgv Try.prog (zrg std) := by
 intro xs p r h hp
 dsimp only [zrg] at h |-
 split at h <;> cases h
 try simp only [L2, L3, std] at hp |-
 rename_i a t n b c f
 have hu : 0 <= n /\ n < 65536 := hp
 refine zaj (T := tt) (S := noS) (lo := fun L => xtL L n b) (lb := noA) 5 (fn := Try.f24) rfl rfl (by kernel_rfl) (by kernel_rfl) rfl zap (zix _) (by kernel_rfl) ?_
 intro L P' Q' hL hP hQ
 (cbv; try simp only [syT, true_and, and_true])
 have hN : (n.tmod 3000).toNat = n.tmod 3000 /\ zoy n < 3000 := by
   have : n.tmod 3000 = ((n.toNat % 3000 : Nat) : Int) := by
     obtain ⟨k, rfl⟩ : ∃ k : Nat, n = k := ⟨n.toNat, by omega⟩
     exact (Int.ofNat_tmod k 3000).symm
   unfold zoy
   omega
 refine ⟨by subst hL; rfl, ?_, ⟨0, ?_⟩, fun i hi => ?_⟩
 · subst hL
   show yl1 1 (n.tmod 3000) (n.tmod 3000) = true
   rw [zu9]
   unfold zoy at hN
   omega
 · (cbv; try simp only [syT, true_and, and_true])
   subst hL
   refine ⟨⟨rfl, fun q j hq hj => ?_⟩, rfl, Nat.zero_le _⟩
   obtain rfl : j = 0 := by omega
   rfl
 · (cbv; try simp only [syT, true_and, and_true])
   have hT : L Int.toNat (L (L Int.tmod n) 3000) = zoy n := by subst hL; rfl
   refine ⟨fun h1 => ⟨?_, i + 1, ?_⟩, fun h1 => ⟨⟨?_, fun q _ => ⟨_, rfl⟩⟩, ?_⟩⟩
   · subst hL; exact zg3 h1
   · (cbv; try simp only [syT, true_and, and_true])
     rw [hT] at h1
     subst hL
     have hlt : i < zoy n := ze8 h1
     refine ⟨fun q j hq hj => ?_, zd2 i (by omega), hlt, zft hlt⟩
     refine (yko _ .u8 _ (xtU b i) q j hj).trans (congrArg (AV.int .u8) ?_)
     show (if q = 0 + (za7 i).toNat then b else xtU b i q) = xtU b (i + 1) q
     rw [za8, Nat.zero_add]
     unfold xtU
     by_cases e : q = i
     · subst e
       rw [if_pos rfl, if_pos (by omega)]
     · rw [if_neg e]
       by_cases e2 : q < i
       · rw [if_pos e2, if_pos (by omega)]
       · rw [if_neg e2, if_neg (by omega)]
   · rw [hT]; subst hL
     show 0 + zoy n <= zoy n
     omega
   · rw [hT] at h1 |-
     subst hL; subst hQ
     have h1 : ilt (za7 i) (za7 (zoy n)) = false := h1
     have hi : i <= zoy n := hi
     have h1 := zc3 h1
     rw [zi4]
     show zay (zoy n) (fun q => xtU b i (0 + q)) = zay (zoy n) (fun _ => b)
     unfold zay
     refine List.map_congr_left fun q hq => ?_
     have hq : q < zoy n := by simpa using hq
     show UInt8.ofNat (xtU b i (0 + q)).toNat = UInt8.ofNat b.toNat
     unfold xtU
     rw [if_pos (by omega)]
theorem yj4 {n b : Int} (h : yqp n) : (xtA n b).length < 3000 := by
 have := yje h
 simpa [xtA, zay] using this
structure Wc where
 a : List UInt8
 t : List UInt8
 n : Int
 b : Int
 c : Bool
 f : Int
def wcC (L : za9) (x : Wc) : Nat -> AV
 | 0 => .str (L Wc.a x)
 | 1 => .str (L Wc.t x)
 | 2 => .int .u16 (L Wc.n x)
 | 3 => .int .u8 (L Wc.b x)
 | 4 => .bool (L Wc.c x)
 | _ => .int .i8 (L Wc.f x)
def zpy (l : List Wc) (i : Nat) : Wc := l.getD i ⟨[], [], 0, 0, false, 0⟩
def yc0 (l : List Wc) : Nat := l.length
def yqn (x : Wc) : Prop := yqp x.n /\ (0 <= x.b /\ x.b < 256)
theorem opens_Wc {H : Type} {enc : TypeId × Value -> H} {W : World} : zfj enc Try.prog W 52 Wc 6 (wcC std) yqn :=
 (zps Try.underlying52 (by kernel_rfl) (zd9 rfl (zpt Try.underlying9 (by kernel_rfl)) (zd9 rfl (zpt Try.underlying9 (by kernel_rfl)) (zd9 rfl (zhp Try.underlying30 (by kernel_rfl)) (zd9 rfl (zhp Try.underlying5 (by kernel_rfl)) (zd9 rfl (zmf Try.underlying4 (by kernel_rfl)) (zd9 rfl (zhp Try.underlying50 (by kernel_rfl)) (zws _)))))))).map
   (fun y => ⟨y.1, y.2.1, y.2.2.1, y.2.2.2.1, y.2.2.2.2.1, y.2.2.2.2.2.1⟩)
   (fun y j hj => by match j, hj with | 0, _ => rfl | 1, _ => rfl | 2, _ => rfl | 3, _ => rfl | 4, _ => rfl | 5, _ => rfl)
   (fun y h => ⟨zxq h.2.2.1, by have := bounds_u8 h.2.2.2.1; exact ⟨this.1, by show y.2.2.2.1 < 256; omega⟩⟩)
theorem avWc (l : List Wc) (i j : Nat) (h : i < l.length) : avL (wcC std) l i j = wcC std (zpy l i) j := by
 rw [avL, zpy, List.getD_eq_getElem?_getD, List.getElem?_eq_getElem h]; rfl
theorem yb2 {l : List Wc} {i : Nat} (h : i < l.length) : zpy l i ∈ l := by
 rw [zpy, List.getD_eq_getElem?_getD, List.getElem?_eq_getElem h]
 exact List.getElem_mem h
def nmSp : List UInt8 := [115, 112, 97, 114, 101]
def foT (y : Wc) : List UInt8 := xtA y.n y.b
theorem zz1 (l : List Nd) (a b : Nd) : (l ++ [a]).set l.length b = l ++ [b] := by
 rw [List.set_append_right _ _ (Nat.le_refl _), Nat.sub_self]; rfl
theorem yi1 {t : List UInt8} (h : t.length < 3000) : (slT t).length <= 3100 := by
 have := zne t
 have hk := zgc (zd7 t (by omega))
 omega
theorem yo3 {l : List Int} {b : Int} (h : ∀ z ∈ l, 0 <= z /\ z <= b) : 0 <= l.sum /\ l.sum <= b * l.length := by
 induction l with
 | nil => simp
 | cons a l ih =>
   have h1 := h a (by simp)
   have h2 := ih (fun z hz => h z (by simp [hz]))
   rw [List.sum_cons, List.length_cons]
   have e : b * ((l.length + 1 : Nat) : Int) = b * (l.length : Int) + b := by
     rw [Int.natCast_add, Int.mul_add]; simp
   rw [e]
   omega
theorem yjc {x : Dk} (h : ∀ k, (za4 x.nd k).now.length <= 3100) (hl : x.names.length <= 10) : 0 <= zlq x /\ zlq x <= 40000 := by
 have h1 := yo3 (l := x.names.map (yb9 x.nd)) (b := 3100) (fun z hz => by
   obtain ⟨y, _, rfl⟩ := List.mem_map.1 hz
   have := h y.2
   unfold yb9
   omega)
 rw [List.length_map] at h1
 unfold zlq wrap64
 omega
theorem zrs (x : Dk) (s : List UInt8) : zb5 (zja x s).nd = zb5 x.nd := by
 obtain ⟨e1, e2, e3, e4, e5⟩ := zby x
 unfold zja zb5
 split
 · split
   · show (zal x).nd.length = _
     rw [e1]
   · rw [e1]
 · rfl
def clX (x : Dk) (s : List UInt8) (k : Nat) : Dk := if k = 0 then x else zja x s
def clF (x : Dk) (s : List UInt8) (k : Nat) : Bool := if k = 0 then false else ieq (zcp x s) 0
def zp2 (x : Dk) (s : List UInt8) : Int := if zcp x s = 0 then zj7 (zja x s) else if zcp x s = 12 then 0 else zcp x s
def zlp (x : Dk) (s : List UInt8) : Dk := if zcp x s = 0 then ze4 (zja x s) else zja x s
def clI (x : Dk) (s : List UInt8) (k : Nat) : Prop := k <= 1 /\ (k = 1 -> zcp x s = 0 \/ zcp x s = 12)
def clA (L : za9) (x : Dk) (s : List UInt8) : Nat -> St -> Option Ann := fun id st => match id with
 | 0 => some ⟨Nat, fun k => [(11, .int .i64 (L za7 k)), (5, .bool (L3 L clF x s k))], fun k => dpX L 500000 500001 500002 904 (L3 L clX x s k), [0, 1, 9, 10], [500010],
     fun k => L3 L clI x s k, fun k => L2 L Nat.sub 1 k⟩
 | _ => none
def clR (s : List UInt8) : List (Nat × Ob) := [(500010, .row 9 1 1 (fun _ _ => .str s))]
def ymb (L : za9) : zeb := (27, fun raw ob => match raw with
 | [.ref id 0, .sl q 1 _ _] => match rdS L ob id, ob q with
   | some x, some (.row _ _ _ g) => match g 0 0 with
     | .str s => some ⟨[.ref 500000 0, .sl 500010 1 0 1], zb9 (dpO L x) (clR s), L zgx x, .int .i64 (L2 L zp2 x s), zb9 (dpX L 500000 500001 12 13 (L2 L zlp x s)) (clR s)⟩
     | _ => none
   | _, _ => none
 | _ => none)
theorem yq3 (x : Dk) (s : List UInt8) (hp : zgx x) : zat Try.prog 27 [.ref 500000 0, .sl 500010 1 0 1] (zb9 (dpO std x) (clR s)) (.int .i64 (zp2 x s)) (zb9 (dpX std 500000 500001 12 13 (zlp x s)) (clR s)) := by
 refine zad (T := tt) (S := fun L => zaz [] [ykj L, ztm L]) (lo := fun L => clA L x s) (lb := noA) 8 (fn := Try.f27) (xs := fun L => [.ref 500000 0, .sl 500010 1 0 1]) (rts := fun L => [.int .i64 (L2 L zp2 x s)]) (O := fun L => zb9 (dpO L x) (clR s)) (O1 := fun L => zb9 (dpX L 500000 500001 12 13 (L2 L zlp x s)) (clR s))
   rfl rfl (by kernel_rfl) (by kernel_rfl) (by kernel_rfl) zap (za6 trivial ⟨yae, zma, trivial⟩) (by kernel_rfl) ?_
 intro L P' Q' hL hP hQ
 have hE : ∀ x : Dk, L zpm ⟨L Dk.room x, L Dk.names x, L Dk.sure x, L zgt (L Dk.pend x), fun q => tnC L (L (L zc1 (L Dk.pend x)) q), L zb5 (L Dk.nd x), fun k _ => ndC L (L (L za4 (L Dk.nd x)) k), L Dk.steps x, L Dk.fuse x, L Dk.down x⟩ = x := by subst hL; exact zjb
 (cbv; try simp only [syT, true_and, and_true])
 refine ⟨⟨0, ?_⟩, fun k hk => ?_⟩
 · (cbv; try simp only [syT, true_and, and_true])
   subst hL
   have hI : clI x s 0 := ⟨Nat.zero_le _, fun e => by cases e⟩
   repeat' (first | exact Nat.le_refl _ | exact trivial | exact hI | exact rfl | refine And.intro ?_ ?_ | intro _)
 · have hk2 : clI x s k := by subst hL; exact hk
   have hk1 := hk2.1
   have tr : ∀ {n : Nat} {q : Nat} {p : Prop}, p -> ((∀ (k : Nat), k < n -> True) /\ ∀ (k i j : Nat), k < n -> i < 1 -> j < 2 -> True) /\ (∀ (i j : Nat), i < q -> j < 4 -> True) /\ p := fun h => ⟨⟨fun _ _ => trivial, fun _ _ _ _ _ _ => trivial⟩, fun _ _ _ _ => trivial, h⟩
   have hX0 : L (L (L clX x) s) 0 = x := by subst hL; rfl
   have hX1 : L (L (L clX x) s) 1 = L (L zja x) s := by subst hL; rfl
   have hF0 : L (L (L clF x) s) 0 = false := by subst hL; rfl
   have hle : zb5 x.nd <= zb5 (zja x s).nd := Nat.le_of_eq (zrs _ _).symm
   (cbv; try simp only [syT, true_and, and_true])
   simp only [hE, true_and]
   refine ⟨fun g1 => ?_, fun g1 => ?_⟩
   · have hk0 : k = 0 := by
       subst hL
       have := ze8 g1
       omega
     have hin : L (L inR (L za7 k)) (L za7 1) = true := by subst hL; exact zg3 g1
     subst hk0
     simp only [hX0, hF0]
     refine ⟨hin, by subst hL; exact hle, tr ⟨by subst hL; exact hp, fun g2 => ⟨fun g3 => ?_, fun g3 => ⟨fun g4 => (by cases g4), fun _ => ⟨1, ?_⟩⟩⟩, fun g2 => ⟨fun g4 => (by cases g4), fun _ => ⟨1, ?_⟩⟩⟩⟩
     · subst hL
       simp only [std] at g2 g3 |-
       rw [zsf] at g2 g3
       have hD : zlp x s = zja x s := if_neg g2
       have hZ : zp2 x s = zcp x s := by
         unfold zp2; rw [if_neg g2, if_neg g3]
       rw [hD, hZ]
       repeat' (first | exact Nat.le_refl _ | exact hle | exact trivial | exact rfl | refine And.intro ?_ ?_ | intro _)
     · (cbv; try simp only [syT, true_and, and_true])
       simp only [hX0, hX1]
       subst hL
       simp only [std] at g2 g3 |-
       rw [zsf] at g2
       rw [zlw] at g3
       have hI : clI x s 1 := ⟨Nat.le_refl _, fun _ => .inr g3⟩
       have hF : false = clF x s 1 := by
         show false = ieq (zcp x s) 0
         rw [eq_comm, ygz]; exact g2
       repeat' (first | exact Nat.le_refl _ | exact hle | exact trivial | exact hF | exact hI | exact rfl | refine And.intro ?_ ?_ | intro _)
     · (cbv; try simp only [syT, true_and, and_true])
       simp only [hX0, hX1]
       subst hL
       simp only [std] at g2 |-
       rw [zlw] at g2
       have hI : clI x s 1 := ⟨Nat.le_refl _, fun _ => .inl g2⟩
       have hF : ieq (zcp x s) 0 = clF x s 1 := rfl
       repeat' (first | exact Nat.le_refl _ | exact hle | exact trivial | exact hF | exact hI | exact rfl | refine And.intro ?_ ?_ | intro _)
   · have hk0 : k = 1 := by
       subst hL
       have := zc3 g1
       omega
     subst hk0
     simp only [hX1]
     have hle2 : zb5 (zja x s).nd <= zb5 (ze4 (zja x s)).nd := Nat.le_of_eq (zji _).symm
     have hle3 := Nat.le_trans hle hle2
     refine ⟨fun g2 => ?_, fun g2 => ⟨by subst hL; exact hle2, tr ?_⟩⟩
     · subst hL
       simp only [std] at g2 |-
       have g2 : ieq (zcp x s) 0 = false := yb6 g2
       rw [ygz] at g2
       have hZ : zp2 x s = 0 := by
         unfold zp2
         rw [if_neg g2, if_pos ((hk2.2 rfl).resolve_left g2)]
       have hD : zlp x s = zja x s := if_neg g2
       rw [hD, hZ]
       repeat' (first | exact Nat.le_refl _ | exact hle | exact trivial | exact rfl | refine And.intro ?_ ?_ | intro _)
     · subst hL
       simp only [std] at g2 |-
       have g2 : ieq (zcp x s) 0 = true := zlr g2
       rw [ycf] at g2
       have hZ : zp2 x s = zj7 (zja x s) := if_pos g2
       have hD : zlp x s = ze4 (zja x s) := if_pos g2
       rw [hD, hZ]
       repeat' (first | exact Nat.le_refl _ | exact hle | exact hle2 | exact hle3 | exact trivial | exact rfl | refine And.intro ?_ ?_ | intro _)
theorem yd5 : zbt Try.prog (ymb std) := by
 intro raw ob T hT hp
 unfold ymb at hT
 simp only at hT
 repeat' split at hT
 all_goals first | (cases hT; done) | (cases hT; exact yq3 _ _ hp)
def mnN : List UInt8 := [109, 97, 105, 110]
def nL : Option Nat -> List (List UInt8 × Nat)
 | none => []
 | some k => [(mnN, k)]
def n1 (o : Option Nat) (k : Nat) : List (List UInt8 × Nat) := nL o ++ [(nmSp, k)]
def n2 (k : Nat) : List (List UInt8 × Nat) := [(mnN, k)]
theorem ybd (o : Option Nat) (k : Nat) : zgu (nL o) nmSp k = n1 o k := by cases o <;> rfl
theorem zmi (o : Option Nat) (k : Nat) : zc8 (n1 o k) nmSp = true := by cases o <;> rfl
theorem ybc (o : Option Nat) (k : Nat) : zds (n1 o k) nmSp = k := by cases o <;> rfl
theorem ybe (o : Option Nat) (k : Nat) : ziy (n1 o k) nmSp = nL o := by cases o <;> rfl
theorem yij (o : Option Nat) (k : Nat) : zgu (nL o) mnN k = n2 k := by cases o <;> rfl
theorem yg3 (o : Option Nat) : zc8 (nL o) nmSp = false := by cases o <;> rfl
def fz (f : Int) : Int := if 0 < f then zp3 .i64 f 1 else f
def stA (o : Option Nat) (nd : List Nd) (st f : Int) (d : Bool) : Dk := ⟨65536, nd, nL o, nL o, [], st, f, d⟩
def stB (o : Option Nat) (nd : List Nd) (t : List UInt8) (st f : Int) (d : Bool) : Dk := ⟨65536, nd ++ [⟨slT t, []⟩], n1 o nd.length, nL o, [⟨1, [], nmSp, true, nd.length⟩], st, f, d⟩
def stC (o : Option Nat) (nd : List Nd) (t : List UInt8) (st f : Int) (d : Bool) : Dk := ⟨65536, nd ++ [⟨slT t, slT t⟩], n1 o nd.length, nL o, [⟨1, [], nmSp, true, nd.length⟩], st, f, d⟩
def stF (o : Option Nat) (nd : List Nd) (t : List UInt8) (st f : Int) (d : Bool) : Dk := ⟨65536, nd ++ [⟨slT t, slT t⟩], n2 nd.length, nL o, [⟨1, [], nmSp, true, nd.length⟩, ⟨2, nmSp, mnN, false, 0⟩], st, f, d⟩
def stE (o : Option Nat) (nd : List Nd) (t : List UInt8) (st f : Int) (d : Bool) : Dk := ⟨65536, nd ++ [⟨slT t, slT t⟩], n2 nd.length, n2 nd.length, [], st, f, d⟩
theorem znb {x : Dk} (h : x.fuse = 0) : zas x = 15 /\ zal x = ⟨x.room, x.nd, x.names, x.sure, x.pend, x.steps, x.fuse, true⟩ := ⟨if_pos h, if_pos h⟩
theorem zk4 {x : Dk} (h : x.fuse ≠ 0) : zas x = 0 /\ zal x = ⟨x.room, x.nd, x.names, x.sure, x.pend, zco .i64 x.steps 1, fz x.fuse, x.down⟩ := ⟨if_neg h, if_neg h⟩
theorem ypb (o : Option Nat) : (nL o).length <= 1 := by
 cases o
 · exact Nat.zero_le _
 · exact Nat.le_refl _
variable {o : Option Nat} {nd : List Nd} {t : List UInt8} {st f : Int}
theorem ys2 (hs : ∀ k, zrd (za4 nd k)) (hu : ∀ k, (za4 nd k).now.length <= 3100) (ht : t.length < 3000) (st f : Int) : zkh (stA o nd st f false) nmSp (slT t) = 0 := by
 have hsl := yi1 ht
 have hlen := ypb o
 have hu := yjc (x := stA o nd st f false) hu (by show (nL o).length <= 10; omega)
 have h1 : zk7 (stA o nd st f false) nmSp (slT t) = ((slT t).length : Int) + zlq (stA o nd st f false) := by
   unfold zk7
   rw [if_neg (by show ¬ zc8 (nL o) nmSp = true; rw [yg3]; decide)]
   unfold zco slen
   rw [zgr]; omega
 unfold zkh
 rw [if_neg (by show ¬ false = true; decide), if_pos (by decide), if_neg (by rintro ⟨_, h⟩; have h : 16 <= (nL o).length := h; omega), h1, if_neg (by show ¬ (65536 : Int) < _; omega)]
theorem yr8 (hp : zkh (stA o nd st f false) nmSp (slT t) = 0) : if f = 0 then zp4 (stA o nd st f false) nmSp (slT t) = 15 /\ zf0 (stA o nd st f false) nmSp (slT t) = stA o nd st f true else zp4 (stA o nd st f false) nmSp (slT t) = 0 /\ ∃ st', zf0 (stA o nd st f false) nmSp (slT t) = stB o nd t st' (fz f) false := by
 split
 · rename_i h
   obtain ⟨a, b⟩ := znb (x := stA o nd st f false) h
   refine ⟨(if_pos hp).trans a, ?_⟩
   unfold zf0
   rw [if_pos hp, if_neg (by rw [a]; decide), b]; rfl
 · rename_i h
   obtain ⟨a, b⟩ := zk4 (x := stA o nd st f false) h
   refine ⟨(if_pos hp).trans a, zco .i64 st 1, ?_⟩
   unfold zf0
   rw [if_pos hp, if_pos a, if_neg (by show ¬ zc8 (nL o) nmSp = true; rw [yg3]; decide), b]
   show (⟨65536, (nd ++ [ndD]).set nd.length ⟨slT t, (za4 (nd ++ [ndD]) nd.length).sure⟩, zgu (nL o) nmSp nd.length, _, _, _, _, _⟩ : Dk) = _
   rw [zz1, zmg, if_pos rfl, ybd]; rfl
theorem yro : if f = 0 then zcp (stB o nd t st f false) nmSp = 15 /\ zcg (stB o nd t st f false) nmSp = stB o nd t st f true else zcp (stB o nd t st f false) nmSp = 0 /\ ∃ st', zcg (stB o nd t st f false) nmSp = stC o nd t st' (fz f) false := by
 have e : thE (stB o nd t st f false) nmSp = 0 := by
   unfold thE
   rw [if_neg (by show ¬ false = true; decide), if_pos (show zc8 (stB o nd t st f false).names nmSp = true from zmi o nd.length)]
 split
 · rename_i h
   obtain ⟨a, b⟩ := znb (x := stB o nd t st f false) h
   refine ⟨(if_pos e).trans a, ?_⟩
   unfold zcg
   rw [if_pos e, if_neg (by rw [a]; decide), b]; rfl
 · rename_i h
   obtain ⟨a, b⟩ := zk4 (x := stB o nd t st f false) h
   refine ⟨(if_pos e).trans a, zco .i64 st 1, ?_⟩
   unfold zcg
   rw [if_pos e, if_pos a, show thK (stB o nd t st f false) nmSp = nd.length from ybc o nd.length, b]
   show (⟨65536, (nd ++ [(⟨slT t, []⟩ : Nd)]).set nd.length (⟨(za4 (nd ++ [(⟨slT t, []⟩ : Nd)]) nd.length).now, (za4 (nd ++ [(⟨slT t, []⟩ : Nd)]) nd.length).now⟩ : Nd), _, _, _, _, _, _⟩ : Dk) = _
   rw [zz1, zmg, if_pos rfl]; rfl
theorem yry : if f = 0 then zp0 (stC o nd t st f false) nmSp mnN = 15 /\ zke (stC o nd t st f false) nmSp mnN = stC o nd t st f true else zp0 (stC o nd t st f false) nmSp mnN = 0 /\ ∃ st', zke (stC o nd t st f false) nmSp mnN = stF o nd t st' (fz f) false := by
 have e : thE (stC o nd t st f false) nmSp = 0 := by
   unfold thE
   rw [if_neg (by show ¬ false = true; decide), if_pos (show zc8 (stC o nd t st f false).names nmSp = true from zmi o nd.length)]
 have hn : zh3 mnN = true := by decide
 have hne : nmSp ≠ mnN := by decide
 split
 · rename_i h
   obtain ⟨a, b⟩ := znb (x := stC o nd t st f false) h
   refine ⟨?_, ?_⟩
   · unfold zp0; rw [if_pos e, if_pos hn, if_neg hne, a]
   · unfold zke
     rw [if_pos ⟨e, hn, hne⟩, if_neg (by rw [a]; decide), b]; rfl
 · rename_i h
   obtain ⟨a, b⟩ := zk4 (x := stC o nd t st f false) h
   refine ⟨?_, zco .i64 st 1, ?_⟩
   · unfold zp0; rw [if_pos e, if_pos hn, if_neg hne, a]
   · unfold zke
     rw [if_pos ⟨e, hn, hne⟩, if_pos a, b]
     show (⟨65536, _, doL (n1 o nd.length) ⟨2, nmSp, mnN, false, 0⟩, _, _, _, _, _⟩ : Dk) = _
     unfold doL
     rw [if_neg (by show ¬ (2 : Int) = 1; decide), if_pos (zmi o nd.length), if_pos rfl, ybe, ybc, yij]; rfl
theorem yrs : if f = 0 then zj7 (stF o nd t st f false) = 15 /\ ze4 (stF o nd t st f false) = stF o nd t st f true else zj7 (stF o nd t st f false) = 0 /\ ∃ st', ze4 (stF o nd t st f false) = stE o nd t st' (fz f) false := by
 split
 · rename_i h
   obtain ⟨a, b⟩ := znb (x := stF o nd t st f false) h
   refine ⟨a, ?_⟩
   unfold ze4
   rw [if_neg (by show ¬ false = true; decide), if_neg (by rw [a]; decide), b]; rfl
 · rename_i h
   obtain ⟨a, b⟩ := zk4 (x := stF o nd t st f false) h
   refine ⟨a, zco .i64 st 1, ?_⟩
   unfold ze4
   rw [if_neg (by show ¬ false = true; decide), if_pos a, b]; rfl
def yo2 (o : Option Nat) (nd : List Nd) (t : List UInt8) (z : Int) (y : Dk) : Prop :=
 ∃ st f, (z = 15 /\ (y = stA o nd st f true \/ y = stB o nd t st f true \/ y = stC o nd t st f true \/ y = stF o nd t st f true)) \/ (z = 0 /\ y = stE o nd t st f false)
theorem yk5 (hs : ∀ k, zrd (za4 nd k)) (hu : ∀ k, (za4 nd k).now.length <= 3100) (ht : t.length < 3000) (st f : Int) : yo2 o nd t (zlm (stA o nd st f false) mnN nmSp t) (zj8 (stA o nd st f false) mnN nmSp t) := by
 have w := yr8 (ys2 (o := o) hs hu ht st f)
 have ht2 : ¬ 16384 < t.length := by omega
 have hne : ¬ mnN = nmSp := by decide
 have big : ∀ {p : Prop} [Decidable p] {a b : Int}, p -> (if p then a else b) = a := fun h => if_pos h
 unfold zlm zj8
 rw [if_neg ht2, if_neg ht2, if_neg hne, if_neg hne]
 by_cases h1 : f = 0
 · rw [if_pos h1] at w
   have z1 : yew (stA o nd st f false) nmSp t ≠ 0 := by
     show zp4 _ _ _ ≠ 0
     rw [w.1]; decide
   rw [if_pos z1, if_pos z1]
   exact ⟨st, f, .inl ⟨w.1, .inl w.2⟩⟩
 · rw [if_neg h1] at w
   obtain ⟨w1, s1, w2⟩ := w
   have z1 : ¬ yew (stA o nd st f false) nmSp t ≠ 0 := fun e => e w1
   rw [if_neg z1, if_neg z1]
   have e1 : sv1 (stA o nd st f false) nmSp t = stB o nd t s1 (fz f) false := w2
   have y := yro (o := o) (nd := nd) (t := t) (st := s1) (f := fz f)
   by_cases h2 : fz f = 0
   · rw [if_pos h2] at y
     have z2 : zy3 (stA o nd st f false) nmSp t = 15 := by
       unfold zy3; rw [e1]; exact y.1
     have nz : zy3 (stA o nd st f false) nmSp t ≠ 0 := by rw [z2]; decide
     rw [if_pos nz, if_pos nz]
     exact ⟨s1, fz f, .inl ⟨z2, .inr (.inl (by unfold sv2; rw [e1]; exact y.2))⟩⟩
   · rw [if_neg h2] at y
     obtain ⟨y1, s2, y2⟩ := y
     have z2 : zy3 (stA o nd st f false) nmSp t = 0 := by
       unfold zy3; rw [e1]; exact y1
     have e2 : sv2 (stA o nd st f false) nmSp t = stC o nd t s2 (fz (fz f)) false := by
       unfold sv2; rw [e1]; exact y2
     have nz : ¬ zy3 (stA o nd st f false) nmSp t ≠ 0 := fun e => e z2
     rw [if_neg nz, if_neg nz]
     have r := yry (o := o) (nd := nd) (t := t) (st := s2) (f := fz (fz f))
     by_cases h3 : fz (fz f) = 0
     · rw [if_pos h3] at r
       have z3 : zyt (stA o nd st f false) mnN nmSp t = 15 := by
         unfold zyt; rw [e2]; exact r.1
       have nz : zyt (stA o nd st f false) mnN nmSp t ≠ 0 := by rw [z3]; decide
       rw [if_pos nz, if_pos nz]
       exact ⟨s2, fz (fz f), .inl ⟨z3, .inr (.inr (.inl (by unfold sv3; rw [e2]; exact r.2)))⟩⟩
     · rw [if_neg h3] at r
       obtain ⟨r1, s3, r2⟩ := r
       have z3 : zyt (stA o nd st f false) mnN nmSp t = 0 := by
         unfold zyt; rw [e2]; exact r1
       have e3 : sv3 (stA o nd st f false) mnN nmSp t = stF o nd t s3 (fz (fz (fz f))) false := by
         unfold sv3; rw [e2]; exact r2
       have nz : ¬ zyt (stA o nd st f false) mnN nmSp t ≠ 0 := fun e => e z3
       rw [if_neg nz, if_neg nz, e3]
       have d := yrs (o := o) (nd := nd) (t := t) (st := s3) (f := fz (fz (fz f)))
       by_cases h4 : fz (fz (fz f)) = 0
       · rw [if_pos h4] at d
         exact ⟨s3, fz (fz (fz f)), .inl ⟨d.1, .inr (.inr (.inr d.2))⟩⟩
       · rw [if_neg h4] at d
         obtain ⟨d1, s4, d2⟩ := d
         exact ⟨s4, fz (fz (fz (fz f))), .inr ⟨d1, d2⟩⟩
end Sy
end Go.Proofs.Ytogomcfgfnlclaa
namespace Go.Proofs.Ytogomcfgfnlclaa
namespace Sy
open Go Go.RowKit
set_option maxRecDepth 100000
set_option linter.unusedSimpArgs false
set_option linter.unusedVariables false
def NB (nd : List Nd) : Prop := ∀ k, (za4 nd k).now.length <= 3100 /\ (za4 nd k).sure.length <= 3100
theorem zs6 {nd : List Nd} (h : NB nd) (k : Nat) : zrd (za4 nd k) := ⟨by have := (h k).1; omega, by have := (h k).2; omega⟩
theorem yii {nd : List Nd} (h : NB nd) {v : Nd} (h1 : v.now.length <= 3100) (h2 : v.sure.length <= 3100) : NB (nd ++ [v]) := fun k => by
 rw [zmg]
 split
 · exact ⟨h1, h2⟩
 · exact h k
def zbs (o sp : Option Nat) : List (List UInt8 × Nat) := match sp with
 | none => nL o
 | some k => n1 o k
def okV (nd : List Nd) : Option Nat -> Option (List UInt8) -> Prop
 | none, none => True
 | some k, some t => za4 nd k = ⟨slT t, slT t⟩ /\ k < nd.length /\ t.length < 3000
 | _, _ => False
def zxz (v : Option (List UInt8)) (sp : Option Nat) (z : Dk) : Prop := ∃ o st nd, z = ⟨65536, nd, zbs o sp, zbs o sp, [], st, -1, false⟩ /\ okV nd o v /\ NB nd
theorem zs2 {nd : List Nd} {o : Option Nat} {v : Option (List UInt8)} (h : okV nd o v) (x : Nd) : okV (nd ++ [x]) o v := by
 match o, v, h with
 | none, none, _ => trivial
 | some k, some t, h => exact ⟨by rw [zmg, if_neg (by have := h.2.1; omega)]; exact h.1, by rw [List.length_append]; exact Nat.lt_add_right _ h.2.1, h.2.2⟩
theorem zs1 (nd : List Nd) {t : List UInt8} (ht : t.length < 3000) : okV (nd ++ [⟨slT t, slT t⟩]) (some nd.length) (some t) := ⟨by rw [zmg, if_pos rfl], by rw [List.length_append]; exact Nat.lt_succ_self _, ht⟩
theorem zqv {nd : List Nd} {s : List (List UInt8 × Nat)} {m : List Int} {k : Nat} {w : List UInt8} (h : za4 nd k = ⟨w, w⟩) : ∀ j, za4 (zv9 nd s m j).nd k = ⟨w, w⟩
 | 0 => h
 | j + 1 => by
   have ih := zqv (s := s) (m := m) h j
   show za4 (crP (zv9 nd s m j) (crK s j) m).nd k = _
   unfold crP
   split
   · exact ih
   · show za4 ((zv9 nd s m j).nd.set _ ⟨kFL _ _ _, kFL _ _ _⟩) k = _
     rw [zhq]
     split
     · rename_i e
       have hk : kFL (zv9 nd s m j).nd (crK s j) (zh4 m (zv9 nd s m j).i) = w := by
         unfold kFL
         rw [<- e.1, ih]
         exact ylg rfl _
       rw [hk]
     · exact ih
theorem yd3 {nd : List Nd} {s : List (List UInt8 × Nat)} {m : List Int} (h : NB nd) : ∀ j, NB (zv9 nd s m j).nd
 | 0 => h
 | j + 1 => fun k => by
   have ih := yd3 (s := s) (m := m) h j
   show (za4 (crP (zv9 nd s m j) (crK s j) m).nd k).now.length <= 3100 /\ (za4 (crP (zv9 nd s m j) (crK s j) m).nd k).sure.length <= 3100
   unfold crP
   split
   · exact ih k
   · rw [zhq]
     split
     · have hl : (kFL (zv9 nd s m j).nd (crK s j) (zh4 m (zv9 nd s m j).i)).length <= 3100 := by
         unfold kFL
         rw [yc8]
         unfold zhc
         split
         · exact (ih _).1
         · exact (ih _).2
       exact ⟨hl, hl⟩
     · exact ih k
theorem zew {y : Dk} {h : List Bool} {o sp : Option Nat} {v : Option (List UInt8)} (m : List Int) (hr : y.room = 65536) (hc : crSu y h = zbs o sp) (hv : okV y.nd o v) (hb : NB y.nd) : zxz v sp (zd5 (crD y h m) (-1)) := by
 refine ⟨o, y.steps, (crD y h m).nd, ?_, ?_, yd3 hb _⟩
 · show (⟨y.room, (crD y h m).nd, crSu y h, crSu y h, [], y.steps, -1, false⟩ : Dk) = _
   rw [hr, hc]
 · match o, v, hv with
   | none, none, _ => trivial
   | some k, some t, hv => exact ⟨zqv hv.1 _, by
       have : (crD y h m).nd.length = y.nd.length := zlf _ _ _ _
       rw [this]; exact hv.2.1, hv.2.2⟩
theorem zge (o sp : Option Nat) : zuv (zbs o sp) := by
 have h1 : mnN.length = 4 := rfl
 have h2 : nmSp.length = 5 := rfl
 refine ⟨?_, fun y hy => ?_⟩
 · cases sp <;> cases o
   · exact Nat.zero_le _
   · show 1 <= 1000000; omega
   · show 1 <= 1000000; omega
   · show 2 <= 1000000; omega
 · have : y.1 = mnN \/ y.1 = nmSp := by
     cases sp <;> cases o
     · cases hy
     · have hy := List.mem_singleton.1 hy
       exact .inl (by rw [hy])
     · have hy := List.mem_singleton.1 hy
       exact .inr (by rw [hy])
     · rcases List.mem_cons.1 hy with hy | hy
       · exact .inl (by rw [hy])
       · exact .inr (by rw [List.mem_singleton.1 hy])
   rcases this with e | e
   · rw [e, h1]; unfold maxLen; omega
   · rw [e, h2]; unfold maxLen; omega
variable {o : Option Nat} {nd : List Nd} {t : List UInt8} {st f : Int} {v : Option (List UInt8)}
theorem su_B {y : Dk} {K : Nat} (h1 : y.sure = nL o) (h2 : y.pend = [⟨1, [], nmSp, true, K⟩]) (h : List Bool) : ∃ sp, crSu y h = zbs o sp := by
 have e : crSu y h = if zej h 0 = true then doL y.sure (zc1 y.pend 0) else y.sure := by
   unfold crSu; rw [show zgt y.pend = 1 by rw [h2]; rfl]; rfl
 rw [e, h1, h2]
 split
 · exact ⟨some K, ybd o K⟩
 · exact ⟨none, rfl⟩
theorem su_F {y : Dk} {K : Nat} (h1 : y.sure = nL o) (h2 : y.pend = [⟨1, [], nmSp, true, K⟩, ⟨2, nmSp, mnN, false, 0⟩]) (h : List Bool) : (∃ sp, crSu y h = zbs o sp) \/ crSu y h = zbs (some K) none := by
 have e : crSu y h = if zej h 1 = true then doL (if zej h 0 = true then doL y.sure (zc1 y.pend 0) else y.sure) (zc1 y.pend 1) else (if zej h 0 = true then doL y.sure (zc1 y.pend 0) else y.sure) := by
   unfold crSu; rw [show zgt y.pend = 2 by rw [h2]; rfl]; rfl
 rw [e, h1, h2]
 have e1 : doL (nL o) (zc1 [⟨1, [], nmSp, true, K⟩, ⟨2, nmSp, mnN, false, 0⟩] 0) = n1 o K := ybd o K
 rw [e1]
 have e2 : ∀ l, doL l (zc1 [⟨1, [], nmSp, true, K⟩, ⟨2, nmSp, mnN, false, 0⟩] 1) = if zc8 l nmSp = true then zgu (ziy l nmSp) mnN (zds l nmSp) else l := fun l => by
   show doL l ⟨2, nmSp, mnN, false, 0⟩ = _
   unfold doL
   rw [if_neg (by show ¬ (2 : Int) = 1; decide)]
   rfl
 by_cases b1 : zej h 1 = true
 · rw [if_pos b1]
   by_cases b0 : zej h 0 = true
   · rw [if_pos b0, e2, if_pos (zmi o K), ybe, ybc, yij]
     exact .inr rfl
   · rw [if_neg b0, e2, if_neg (by rw [yg3]; decide)]
     exact .inl ⟨none, rfl⟩
 · rw [if_neg b1]
   by_cases b0 : zej h 0 = true
   · rw [if_pos b0]; exact .inl ⟨some K, rfl⟩
   · rw [if_neg b0]; exact .inl ⟨none, rfl⟩
def Aft (v : Option (List UInt8)) (t : List UInt8) (z : Int) (y : Dk) : Prop :=
 (z = 15 /\ y.down = true /\ ∀ h m, ym8 y h /\ ∃ v' sp, (v' = v \/ v' = some t) /\ zxz v' sp (zd5 (crD y h m) (-1))) \/
 (z = 0 /\ y.down = false /\ zxz (some t) none (zd5 y (-1)) /\ ∀ h m, ym8 y h /\ zxz (some t) none (zd5 (crD y h m) (-1)))
theorem yqh (hb : NB nd) (hv : okV nd o v) (ht : t.length < 3000) {z : Int} {y : Dk} (h : yo2 o nd t z y) : Aft v t z y := by
 have hs := yi1 ht
 have b1 : NB (nd ++ [⟨slT t, []⟩]) := yii hb hs (Nat.zero_le _)
 have b2 : NB (nd ++ [⟨slT t, slT t⟩]) := yii hb hs hs
 have d1 : ∀ i, i < 1 -> yiy (zc1 [⟨1, [], nmSp, true, nd.length⟩] i).kd (zc1 [⟨1, [], nmSp, true, nd.length⟩] i).c := fun i hi => by
   obtain rfl : i = 0 := by omega
   exact fun _ => rfl
 have d2 : ∀ i, i < 2 -> yiy (zc1 [⟨1, [], nmSp, true, nd.length⟩, ⟨2, nmSp, mnN, false, 0⟩] i).kd (zc1 [⟨1, [], nmSp, true, nd.length⟩, ⟨2, nmSp, mnN, false, 0⟩] i).c := fun i hi => by
   match i, hi with
   | 0, _ => exact fun _ => rfl
   | 1, _ => exact fun e => absurd e (by show ¬ (2 : Int) = 1; decide)
 obtain ⟨st, f, h⟩ := h
 rcases h with ⟨hz, h⟩ | ⟨hz, h⟩
 · left
   rcases h with rfl | rfl | rfl | rfl
   · refine ⟨hz, rfl, fun h m => ?_⟩
     have hc : crSu (stA o nd st f true) h = zbs o none := rfl
     exact ⟨⟨fun i hi => absurd hi (Nat.not_lt_zero i), Nat.zero_le _, by rw [hc]; exact zge _ _, zs6 hb⟩, v, none, .inl rfl, zew m rfl hc hv hb⟩
   · refine ⟨hz, rfl, fun h m => ?_⟩
     obtain ⟨sp, hc⟩ := su_B (o := o) (y := stB o nd t st f true) rfl rfl h
     exact ⟨⟨d1, by show 1 <= 1000000; omega, by rw [hc]; exact zge _ _, zs6 b1⟩, v, sp, .inl rfl, zew m rfl hc (zs2 hv _) b1⟩
   · refine ⟨hz, rfl, fun h m => ?_⟩
     obtain ⟨sp, hc⟩ := su_B (o := o) (y := stC o nd t st f true) rfl rfl h
     exact ⟨⟨d1, by show 1 <= 1000000; omega, by rw [hc]; exact zge _ _, zs6 b2⟩, v, sp, .inl rfl, zew m rfl hc (zs2 hv _) b2⟩
   · refine ⟨hz, rfl, fun h m => ?_⟩
     rcases su_F (o := o) (y := stF o nd t st f true) rfl rfl h with ⟨sp, hc⟩ | hc
     · exact ⟨⟨d2, by show 2 <= 1000000; omega, by rw [hc]; exact zge _ _, zs6 b2⟩, v, sp, .inl rfl, zew m rfl hc (zs2 hv _) b2⟩
     · exact ⟨⟨d2, by show 2 <= 1000000; omega, by rw [hc]; exact zge _ _, zs6 b2⟩, some t, none, .inr rfl, zew m rfl hc (zs1 nd ht) b2⟩
 · right
   subst h
   refine ⟨hz, rfl, ⟨some nd.length, st, _, rfl, zs1 nd ht, b2⟩, fun h m => ?_⟩
   have hc : crSu (stE o nd t st f false) h = zbs (some nd.length) none := rfl
   exact ⟨⟨fun i hi => absurd hi (Nat.not_lt_zero i), Nat.zero_le _, by rw [hc]; exact zge _ _, zs6 b2⟩, zew m rfl hc (zs1 nd ht) b2⟩
theorem ymy {x : Dk} (h : zxz v none x) (ht : t.length < 3000) (f : Int) : Aft v t (zlm (zd5 x f) mnN nmSp t) (zj8 (zd5 x f) mnN nmSp t) := by
 obtain ⟨o, st, nd, rfl, hv, hb⟩ := h
 exact yqh hb hv ht (yk5 (zs6 hb) (fun k => (hb k).1) ht st (max f (-1)))
theorem ym0 {sp : Option Nat} {z : Dk} (h : zxz v sp z) (s : List UInt8) : zx5 z s := by
 obtain ⟨o, st, nd, rfl, hv, hb⟩ := h
 show List.length (zij _ s) <= 100000
 unfold zij
 split
 · have := (hb (thK ⟨65536, nd, zbs o sp, zbs o sp, [], st, -1, false⟩ s)).1
   exact Nat.le_trans this (by omega)
 · exact Nat.zero_le _
theorem yp7 (o sp : Option Nat) : zc8 (zbs o sp) mnN = o.isSome /\ ∀ k, o = some k -> zds (zbs o sp) mnN = k := by
 cases sp <;> cases o
 · exact ⟨rfl, fun k e => by cases e⟩
 · exact ⟨rfl, fun k e => by cases e; rfl⟩
 · exact ⟨rfl, fun k e => by cases e⟩
 · exact ⟨rfl, fun k e => by cases e; rfl⟩
theorem yhf {sp : Option Nat} {z : Dk} (h : zxz v sp z) : (v = none /\ ziz z mnN = 12) \/ ∃ t, v = some t /\ ziz z mnN = 0 /\ zjo z mnN = t := by
 obtain ⟨o, st, nd, rfl, hv, hb⟩ := h
 obtain ⟨m1, m2⟩ := yp7 o sp
 match o, v, hv with
 | none, none, _ =>
   left
   refine ⟨rfl, ?_⟩
   have e : thE ⟨65536, nd, zbs none sp, zbs none sp, [], st, -1, false⟩ mnN = 12 := by
     unfold thE
     rw [if_neg (by show ¬ false = true; decide), if_neg (by show ¬ zc8 (zbs none sp) mnN = true; rw [m1]; decide)]
   unfold ziz
   rw [e, if_neg (by decide)]
 | some k, some t, hv =>
   right
   have e : thE ⟨65536, nd, zbs (some k) sp, zbs (some k) sp, [], st, -1, false⟩ mnN = 0 := by
     unfold thE
     rw [if_neg (by show ¬ false = true; decide), if_pos (by show zc8 (zbs (some k) sp) mnN = true; rw [m1]; rfl)]
   have r : zij ⟨65536, nd, zbs (some k) sp, zbs (some k) sp, [], st, -1, false⟩ mnN = slT t := by
     refine (if_pos e).trans ?_
     show (za4 nd (zds (zbs (some k) sp) mnN)).now = _
     rw [m2 k rfl, hv.1]
   have hl := hv.2.2
   exact ⟨t, rfl, (if_pos e).trans (by rw [r]; exact yic _ (by omega)), (if_pos e).trans (by rw [r]; exact yib _ (by omega))⟩
theorem ycx {sp : Option Nat} {z : Dk} (h : zxz v sp z) : zp2 z nmSp = 0 /\ zxz v none (zlp z nmSp) := by
 obtain ⟨o, st, nd, rfl, hv, hb⟩ := h
 cases sp with
 | none =>
   have e : thE ⟨65536, nd, zbs o none, zbs o none, [], st, -1, false⟩ nmSp = 12 := by
     unfold thE
     rw [if_neg (by show ¬ false = true; decide), if_neg (by show ¬ zc8 (nL o) nmSp = true; rw [yg3]; decide)]
   have z : zcp ⟨65536, nd, zbs o none, zbs o none, [], st, -1, false⟩ nmSp = 12 := by
     unfold zcp; rw [e, if_neg (by decide)]
   have d : zlp ⟨65536, nd, zbs o none, zbs o none, [], st, -1, false⟩ nmSp = ⟨65536, nd, zbs o none, zbs o none, [], st, -1, false⟩ := by
     unfold zlp zja
     rw [z, e, if_neg (by decide), if_neg (by decide)]
   refine ⟨?_, ?_⟩
   · unfold zp2; rw [z, if_neg (by decide), if_pos rfl]
   · rw [d]; exact ⟨o, st, nd, rfl, hv, hb⟩
 | some k =>
   have e : thE ⟨65536, nd, zbs o (some k), zbs o (some k), [], st, -1, false⟩ nmSp = 0 := by
     unfold thE
     rw [if_neg (by show ¬ false = true; decide), if_pos (by show zc8 (n1 o k) nmSp = true; exact zmi o k)]
   have z : zcp ⟨65536, nd, zbs o (some k), zbs o (some k), [], st, -1, false⟩ nmSp = 0 := (if_pos e).trans rfl
   have r : zja ⟨65536, nd, zbs o (some k), zbs o (some k), [], st, -1, false⟩ nmSp = ⟨65536, nd, nL o, zbs o (some k), [⟨3, nmSp, [], false, 0⟩], zco .i64 st 1, -1, false⟩ := by
     unfold zja
     rw [if_pos e, if_pos (show zas ⟨65536, nd, zbs o (some k), zbs o (some k), [], st, -1, false⟩ = 0 from rfl), (zk4 (x := ⟨65536, nd, zbs o (some k), zbs o (some k), [], st, -1, false⟩) (by show ¬ (-1 : Int) = 0; decide)).2]
     show (⟨65536, nd, doL (n1 o k) ⟨3, nmSp, [], false, 0⟩, _, _, _, _, _⟩ : Dk) = _
     unfold doL
     rw [if_neg (by show ¬ (3 : Int) = 1; decide), if_pos (zmi o k), if_neg (by show ¬ (3 : Int) = 2; decide), ybe]
     rfl
   refine ⟨?_, o, zco .i64 (zco .i64 st 1) 1, nd, ?_, hv, hb⟩
   · unfold zp2; rw [if_pos z, r]; rfl
   · unfold zlp; rw [if_pos z, r]; rfl
theorem ylz : zxz none none (ypa 65536) := ⟨none, 0, [], rfl, trivial, fun k => ⟨Nat.zero_le _, Nat.zero_le _⟩⟩
end Sy
end Go.Proofs.Ytogomcfgfnlclaa
namespace Go.Proofs.Ytogomcfgfnlclaa
namespace Sy
open Go Go.RowKit
set_option maxRecDepth 100000
set_option linter.unusedSimpArgs false
set_option linter.unusedVariables false
structure Fp where
 l : List Wc
 b : List (List Bool)
 m : List (List Int)
structure Fw where
 x : Dk
 l : List UInt8
 h : Bool
def zs4 (l : List (List Bool)) (i : Nat) : List Bool := l.getD i []
def zs3 (l : List (List Int)) (i : Nat) : List Int := l.getD i []
def yl9 (l : List (List Bool)) : Nat := l.length
def yl8 (l : List (List Int)) : Nat := l.length
def fwA (p : Fp) (i : Nat) : Wc := zpy p.l i
def fwT (p : Fp) (i : Nat) : List UInt8 := foT (fwA p i)
def fwH (p : Fp) (i : Nat) : List Bool := zs4 p.b i
def fwM (p : Fp) (i : Nat) : List Int := zs3 p.m i
def wx1 (p : Fp) (i : Nat) (w : Fw) : Dk := zd5 w.x (IntKind.i64.wrap (fwA p i).f)
def wz2 (p : Fp) (i : Nat) (w : Fw) : Int := zlm (wx1 p i w) mnN nmSp (fwT p i)
def wx2 (p : Fp) (i : Nat) (w : Fw) : Dk := zj8 (wx1 p i w) mnN nmSp (fwT p i)
def wx3 (p : Fp) (i : Nat) (w : Fw) : Dk := if (wx2 p i w).down = true \/ (fwA p i).c = true then crD (wx2 p i w) (fwH p i) (fwM p i) else wx2 p i w
def wx4 (p : Fp) (i : Nat) (w : Fw) : Dk := zd5 (wx3 p i w) (-1)
def wl1 (p : Fp) (i : Nat) (w : Fw) : List UInt8 := if wz2 p i w = 0 then fwT p i else w.l
def wh1 (p : Fp) (i : Nat) (w : Fw) : Bool := if wz2 p i w = 0 then true else w.h
def zpi (p : Fp) (i : Nat) (w : Fw) : Prop := ziz (wx4 p i w) mnN = 0 /\ zjo (wx4 p i w) mnN = fwT p i
instance (p : Fp) (i : Nat) (w : Fw) : Decidable (zpi p i w) := instDecidableAnd
def wl2 (p : Fp) (i : Nat) (w : Fw) : List UInt8 := if zpi p i w then fwT p i else wl1 p i w
def wh2 (p : Fp) (i : Nat) (w : Fw) : Bool := if zpi p i w then true else wh1 p i w
def fwS (p : Fp) (i : Nat) (w : Fw) : Fw := ⟨zlp (wx4 p i w) nmSp, wl2 p i w, wh2 p i w⟩
def fwW (p : Fp) : Nat -> Fw
 | 0 => ⟨ypa 65536, [], false⟩
 | i + 1 => fwS p i (fwW p i)
def wfX (p : Fp) (i : Nat) : Dk := (fwW p i).x
def wfL (p : Fp) (i : Nat) : List UInt8 := (fwW p i).l
def wfB (p : Fp) (i : Nat) : Bool := (fwW p i).h
def fX2 (p : Fp) (i : Nat) : Dk := wx2 p i (fwW p i)
def fX3 (p : Fp) (i : Nat) : Dk := wx3 p i (fwW p i)
def fX4 (p : Fp) (i : Nat) : Dk := wx4 p i (fwW p i)
def yeb (p : Fp) (i : Nat) : List UInt8 := wl1 p i (fwW p i)
def zyd (p : Fp) (i : Nat) : Bool := wh1 p i (fwW p i)
def zt6 (p : Fp) (i : Nat) : List UInt8 := wl2 p i (fwW p i)
def zt7 (p : Fp) (i : Nat) : Bool := wh2 p i (fwW p i)
def fV (l : List UInt8) (h : Bool) : Option (List UInt8) := if h = true then some l else none
def fwI (p : Fp) (i : Nat) : Prop := i <= p.l.length /\ zxz (fV (wfL p i) (wfB p i)) none (wfX p i)
theorem ztp (x : Dk) (nm sp t : List UInt8) : zb5 x.nd <= zb5 (zj8 x nm sp t).nd := by
 have l1 : zb5 x.nd <= zb5 (sv1 x sp t).nd := zt5 _ _ _
 have l2 : zb5 (sv1 x sp t).nd <= zb5 (sv2 x sp t).nd := Nat.le_of_eq (ztg _ _).symm
 have l3 : zb5 (sv2 x sp t).nd <= zb5 (sv3 x nm sp t).nd := Nat.le_of_eq (ya7 _ _ _).symm
 have l4 : zb5 (sv3 x nm sp t).nd <= zb5 (ze4 (sv3 x nm sp t)).nd := Nat.le_of_eq (zji _).symm
 unfold zj8
 repeat' split
 all_goals omega
def fwAn (L : za9) (p : Fp) : Nat -> St -> Option Ann := fun id st => match id with
 | 0 => some ⟨Nat, fun i => [(40, .int .i64 (L za7 i)), (7, .ref 901 0), (9, .str (L2 L wfL p i)), (10, .bool (L2 L wfB p i))], fun i => dpX L 901 902 903 904 (L2 L wfX p i), [1, 2, 38, 39], [], fun i => L2 L fwI p i, fun i => L2 L Nat.sub (L yc0 (L Fp.l p)) i⟩
 | 1000056 => zh0 st 40 fun i => some ⟨Nat, fun _ => [(7, .ref 901 0), (9, .str (L2 L yeb p (L Int.toNat i))), (10, .bool (L2 L zyd p (L Int.toNat i)))], fun _ => dpX L 901 902 903 904 (L2 L fX2 p (L Int.toNat i)), [1, 2, 11, 12, 13, 38, 39, 40], [12], fun _ => True, fun _ => 0⟩
 | 1000067 => zh0 st 40 fun i => some ⟨Nat, fun _ => [(7, .ref 901 0), (15, zgy L (L2 L fwH p (L Int.toNat i)))], fun _ => dpX L 901 902 903 904 (L2 L fX2 p (L Int.toNat i)), [1, 2, 9, 10, 11, 12, 13, 16, 38, 39, 40], [12], fun _ => True, fun _ => 0⟩
 | 1000075 => zh0 st 40 fun i => some ⟨Nat, fun _ => [(7, .ref 901 0), (16, zlu L (L2 L fwM p (L Int.toNat i)))], fun _ => dpX L 901 902 903 904 (L2 L fX2 p (L Int.toNat i)), [1, 2, 9, 10, 11, 12, 13, 15, 38, 39, 40], [12], fun _ => True, fun _ => 0⟩
 | 1000063 => zh0 st 40 fun i => some ⟨Nat, fun _ => [(7, .ref 901 0)], fun _ => dpX L 901 902 903 904 (L2 L fX3 p (L Int.toNat i)), [1, 2, 9, 10, 11, 12, 13, 38, 39, 40], [12], fun _ => True, fun _ => 0⟩
 | 1000097 => zh0 st 40 fun i => some ⟨Nat, fun _ => [(7, .ref 901 0), (9, .str (L2 L zt6 p (L Int.toNat i))), (10, .bool (L2 L zt7 p (L Int.toNat i)))], fun _ => dpX L 901 902 903 904 (L2 L fX4 p (L Int.toNat i)), [1, 2, 11, 12, 13, 17, 18, 38, 39, 40], [12], fun _ => True, fun _ => 0⟩
 | _ => none
def yn6 (p : Fp) (i : Nat) (T : List UInt8) (Z : Dk) : Prop :=
 ∃ v' sp, zxz v' sp Z /\ ((v' = some T) \/ (v' = fV (wfL p i) (wfB p i) /\ wz2 p i (fwW p i) ≠ 0))
theorem yd0 {p : Fp} {i : Nat} {T : List UInt8} {Z : Dk} (h : yn6 p i T Z) : zx5 Z [109, 97, 105, 110] := by
 obtain ⟨v', sp, h, _⟩ := h
 exact ym0 h _
theorem zr7 {p : Fp} {i : Nat} {T : List UInt8} {y : Dk} (a : Aft (fV (wfL p i) (wfB p i)) T (wz2 p i (fwW p i)) y) (h : List Bool) (m : List Int) : ym8 y h /\ yn6 p i T (zd5 (crD y h m) (-1)) := by
 rcases a with ⟨a1, a2, a3⟩ | ⟨a1, a2, a3, a4⟩
 · obtain ⟨b1, v', sp, b2, b3⟩ := a3 h m
   refine ⟨b1, v', sp, b3, ?_⟩
   rcases b2 with b2 | b2
   · exact .inr ⟨b2, by rw [a1]; decide⟩
   · exact .inl b2
 · exact ⟨(a4 h m).1, some T, none, (a4 h m).2, .inl rfl⟩
theorem yqg {p : Fp} {i : Nat} {T : List UInt8} {y : Dk} (a : Aft (fV (wfL p i) (wfB p i)) T (wz2 p i (fwW p i)) y) (hd : y.down = false) : yn6 p i T (zd5 y (-1)) := by
 rcases a with ⟨a1, a2, a3⟩ | ⟨a1, a2, a3, a4⟩
 · rw [hd] at a2; cases a2
 · exact ⟨some T, none, a3, .inl rfl⟩
theorem zqs {p : Fp} {i : Nat} {T : List UInt8} {Z : Dk} (h : yn6 p i T Z) (hZ : Z = fX4 p i) (hT : T = fwT p i) (hi : i < p.l.length) :
   ((ziz Z [109, 97, 105, 110] = 12 /\ zyd p i = false /\ zt7 p i = false /\ zt6 p i = yeb p i) \/ (ziz Z [109, 97, 105, 110] = 0 /\ zt7 p i = true /\ zjo Z [109, 97, 105, 110] = zt6 p i)) /\ zp2 Z nmSp = 0 /\ fwI p (i + 1) := by
 obtain ⟨v', sp, h, hv⟩ := h
 obtain ⟨c1, c2⟩ := ycx h
 have hX : wfX p (i + 1) = zlp Z nmSp := by rw [hZ]; rfl
 have hs4 : zpi p i (fwW p i) ↔ ziz Z mnN = 0 /\ zjo Z mnN = T := by rw [hZ, hT]; rfl
 have key : ((ziz Z mnN = 12 /\ zyd p i = false /\ zt7 p i = false /\ zt6 p i = yeb p i) \/ (ziz Z mnN = 0 /\ zt7 p i = true /\ zjo Z mnN = zt6 p i)) /\ fV (zt6 p i) (zt7 p i) = v' := by
   rcases yhf h with ⟨e1, e2⟩ | ⟨t', e1, e2, e3⟩
   · have hn : ¬ zpi p i (fwW p i) := fun e => by
       have := (hs4.1 e).1
       rw [e2] at this; cases this
     have hL2 : zt6 p i = yeb p i := if_neg hn
     have hB2 : zt7 p i = zyd p i := if_neg hn
     rcases hv with hv | ⟨hv, hz⟩
     · rw [e1] at hv; cases hv
     · have hb : wfB p i = false := by
         cases e : wfB p i
         · rfl
         · rw [e1, e] at hv; cases hv
       have hb1 : zyd p i = false := (if_neg hz).trans hb
       refine ⟨.inl ⟨e2, hb1, hB2.trans hb1, hL2⟩, ?_⟩
       rw [hB2, hb1, e1]; rfl
   · by_cases hs : zpi p i (fwW p i)
     · have hL2 : zt6 p i = T := by rw [hT]; exact if_pos hs
       have hB2 : zt7 p i = true := if_pos hs
       have hx := (hs4.1 hs).2
       refine ⟨.inr ⟨e2, hB2, by rw [hL2]; exact hx⟩, ?_⟩
       rw [hB2, hL2, e1, <- hx, e3]; rfl
     · have hL2 : zt6 p i = yeb p i := if_neg hs
       have hB2 : zt7 p i = zyd p i := if_neg hs
       rcases hv with hv | ⟨hv, hz⟩
       · exfalso
         rw [e1] at hv
         have : t' = T := Option.some.inj hv
         exact hs (hs4.2 ⟨e2, e3.trans this⟩)
       · have hb : wfB p i = true := by
           cases e : wfB p i
           · rw [e1, e] at hv; cases hv
           · rfl
         have hb1 : zyd p i = true := (if_neg hz).trans hb
         have hl1 : yeb p i = wfL p i := if_neg hz
         have ht : t' = wfL p i := by
           rw [e1, hb] at hv
           exact Option.some.inj hv
         refine ⟨.inr ⟨e2, hB2.trans hb1, by rw [hL2, hl1, e3, ht]⟩, ?_⟩
         rw [hB2, hb1, hL2, hl1, e1, ht]; rfl
 refine ⟨key.1, c1, hi, ?_⟩
 rw [hX]
 show zxz (fV (zt6 p i) (zt7 p i)) none _
 rw [key.2]; exact c2
theorem zek (x : Dk) (s : List UInt8) : zb5 x.nd <= zb5 (zlp x s).nd := by
 unfold zlp
 split
 · rw [zji, zrs]; exact Nat.le_refl _
 · rw [zrs]; exact Nat.le_refl _
theorem zgm {p : Fp} {i : Nat} {T : List UInt8} {Z : Dk} (h : yn6 p i T Z) : zgx Z := by
 obtain ⟨v', sp, ⟨o, st, nd, e, _⟩, _⟩ := h
 show Z.pend.length <= 1000000
 rw [e]; exact Nat.zero_le _
theorem yih {p : Fp} {i : Nat} (h : yl9 p.b <= i) : ymx (fwH p i) = 0 := by
 have h : p.b.length <= i := h
 unfold fwH zs4
 rw [List.getD_eq_getElem?_getD, List.getElem?_eq_none h]; rfl
theorem yig {p : Fp} {i : Nat} (h : yl8 p.m <= i) : yln (fwM p i) = 0 := by
 have h : p.m.length <= i := h
 unfold fwM zs3
 rw [List.getD_eq_getElem?_getD, List.getElem?_eq_none h]; rfl
set_option maxHeartbeats 4000000 in
theorem yel (p : Fp) (hl : ∀ y ∈ p.l, yqn y) : zbk Try.prog 6 [.lst 6 (yc0 p.l) (fun i => wcC std (zpy p.l i)), .lst 1 (yl9 p.b) (fun i _ => zgy std (zs4 p.b i)), .lst 1 (yl8 p.m) (fun i _ => zlu std (zs3 p.m i))] (.bool true) := by
 refine ye6 (T := tt) (S := fun L => zaz [tru 22, zrg L] [ykv L, yk6 L, yl4 L, ymb L, ych L, yd1 L, zsw L]) (lo := fun L => fwAn L p) (lb := noA) 8 (fn := Try.f6)
   (xs := fun L => [.lst 6 (L yc0 (L Fp.l p)) (fun i => wcC L (L (L zpy (L Fp.l p)) i)), .lst 1 (L yl9 (L Fp.b p)) (fun i _ => zgy L (L (L zs4 (L Fp.b p)) i)), .lst 1 (L yl8 (L Fp.m p)) (fun i _ => zlu L (L (L zs3 (L Fp.m p)) i))])
   tab0 (by kernel_rfl) rfl rfl (by kernel_rfl) (by kernel_rfl) rfl zap (za6 ⟨zec zxt, zvi, trivial⟩ ⟨yba, ya2, ybx, yd5, zxe, zxl, zsv, trivial⟩) (by kernel_rfl) ?_
 intro L P' Q' hL hP hQ
 have hE : ∀ x : Dk, L zpm ⟨L Dk.room x, L Dk.names x, L Dk.sure x, L zgt (L Dk.pend x), fun q => tnC L (L (L zc1 (L Dk.pend x)) q), L zb5 (L Dk.nd x), fun k _ => ndC L (L (L za4 (L Dk.nd x)) k), L Dk.steps x, L Dk.fuse x, L Dk.down x⟩ = x := by subst hL; exact zjb
 (cbv; try simp only [syT, true_and, and_true])
 refine ⟨fun g1 => ?_, fun _ => ?_⟩
 · subst hL; cases g1
 refine ⟨fun g1 => ?_, fun g1 => ⟨fun g2 => ?_, fun g2 => ⟨fun g3 => ?_, fun g3 => ⟨Nat.zero_le _, ⟨fun _ _ => trivial, fun _ _ _ _ _ _ => trivial⟩, ⟨?_, ?_⟩, ⟨0, ?_⟩, fun i hi => ?_⟩⟩⟩⟩
 · subst hQ; rw [zck]
 · subst hQ; rw [zck]
 · subst hQ; rw [zck]
 · subst hL; exact ⟨by decide, by decide⟩
 · subst hL; rfl
 · (cbv; try simp only [syT, true_and, and_true])
   subst hL
   exact ⟨Nat.le_refl _, Nat.zero_le _, ⟨rfl, fun _ _ => trivial, fun _ _ _ _ _ _ => rfl⟩, ⟨rfl, fun _ _ _ _ => rfl⟩, rfl, rfl, rfl, rfl, rfl, rfl, rfl, fun _ _ _ _ => trivial, fun _ _ _ _ => trivial, fun _ _ _ _ => trivial, rfl, rfl, rfl, Nat.zero_le _, ylz⟩
 · (cbv; try simp only [syT, true_and, and_true])
   simp only [hE, true_and]
   have tr : ∀ {n : Nat} {q : Nat} {p : Prop}, p -> ((∀ (k : Nat), k < n -> True) /\ ∀ (k i j : Nat), k < n -> i < 1 -> j < 2 -> True) /\ (∀ (i j : Nat), i < q -> j < 4 -> True) /\ p := fun h => ⟨⟨fun _ _ => trivial, fun _ _ _ _ _ _ => trivial⟩, fun _ _ _ _ => trivial, h⟩
   have hll : p.l.length <= 8 := by
     subst hL
     have g1 : ilt 8 (za7 (yc0 p.l)) = false := g1
     rw [zl3] at g1
     unfold za7 yc0 at g1
     omega
   have hw : fwI p i := by subst hL; exact hi
   refine ⟨fun k1 => ?_, fun k1 => ?_⟩
   · have hlt : i < p.l.length := by subst hL; exact ze8 k1
     have hy : yqn (fwA p i) := hl _ (yb2 hlt)
     obtain ⟨Y, hYv⟩ : ∃ Y, Y = fwA p i := ⟨_, rfl⟩
     obtain ⟨T, hTv⟩ : ∃ T, T = fwT p i := ⟨_, rfl⟩
     obtain ⟨FF, hFv⟩ : ∃ FF, FF = IntKind.i64.wrap (fwA p i).f := ⟨_, rfl⟩
     have hact : L (L zpy (L Fp.l p)) (L Int.toNat (L za7 i)) = Y := by subst hL; subst hYv; simp only [std, za8]; rfl
     have hT : L (L xtA (L Wc.n Y)) (L Wc.b Y) = T := by subst hL; subst hTv; subst hYv; rfl
     have hF : L IntKind.i64.wrap (L Wc.f Y) = FF := by subst hL; subst hFv; subst hYv; rfl
     have htl : T.length < 3000 := by rw [hTv]; exact yj4 hy.1
     have aft : Aft (fV (wfL p i) (wfB p i)) T (wz2 p i (fwW p i)) (wx2 p i (fwW p i)) := by
       rw [hTv]; rw [hTv] at htl; exact ymy hw.2 htl _
     have eX2 : zj8 (zd5 (wfX p i) FF) mnN nmSp T = fX2 p i := by rw [hTv, hFv]; rfl
     have eZ2 : zlm (zd5 (wfX p i) FF) mnN nmSp T = wz2 p i (fwW p i) := by rw [hTv, hFv]; rfl
     have hd2 : zb5 (wfX p i).nd <= zb5 (fX2 p i).nd := by
       rw [<- eX2]
       exact ztp (zd5 (wfX p i) FF) mnN nmSp T
     have hds : zb5 (zd5 (wfX p i) FF).nd <= zb5 (zj8 (zd5 (wfX p i) FF) mnN nmSp T).nd := ztp _ _ _ _
     simp only [hact, hT, hF]
     refine ⟨by subst hL; exact zg3 k1, by subst hL; exact Nat.le_refl _, tr ⟨by subst hL; subst hYv; exact hy.1, by subst hL; exact hds, tr ⟨⟨?_, ?_, ?_⟩, ⟨fun k2 => ⟨0, ?_⟩, fun k2 => ⟨0, ?_⟩⟩, fun q1 hq1 => ?_⟩⟩⟩
     · subst hL
       obtain ⟨o, st, nd, e, _⟩ := hw.2
       show (wfX p i).pend.length <= 900000
       rw [e]; exact Nat.zero_le _
     · subst hL; show [109, 97, 105, 110].length <= 1000; decide
     · subst hL; show [115, 112, 97, 114, 101].length <= 1000; decide
     · (cbv; try simp only [syT, true_and, and_true])
       subst hL
       simp only [std, L3, za8] at k2 |-
       rw [show zj8 (zd5 (wfX p i) FF) [109, 97, 105, 110] [115, 112, 97, 114, 101] T = fX2 p i from eX2]
       have k2 : ieq (zlm (zd5 (wfX p i) FF) mnN nmSp T) 0 = true := k2
       rw [eZ2, ycf] at k2
       have b1 : true = zyd p i := (if_pos k2).symm
       have b2 : T = yeb p i := by rw [hTv]; exact (if_pos k2).symm
       repeat' (first | exact Nat.le_refl _ | exact trivial | exact rfl | assumption | refine And.intro ?_ ?_ | intro _)
     · (cbv; try simp only [syT, true_and, and_true])
       subst hL
       simp only [std, L3, za8] at k2 |-
       rw [show zj8 (zd5 (wfX p i) FF) [109, 97, 105, 110] [115, 112, 97, 114, 101] T = fX2 p i from eX2]
       have k2 : ieq (zlm (zd5 (wfX p i) FF) mnN nmSp T) 0 = false := k2
       rw [eZ2, ygz] at k2
       have b1 : wfB p i = zyd p i := (if_neg k2).symm
       have b2 : wfL p i = yeb p i := (if_neg k2).symm
       repeat' (first | exact Nat.le_refl _ | exact trivial | exact rfl | assumption | refine And.intro ?_ ?_ | intro _)
     · (cbv; try simp only [syT, true_and, and_true])
       simp only [hE, true_and]
       have hB : ∀ h : List Bool, L rdB ⟨L ymx h, fun i _ => .bool (L2 L zej h i)⟩ = h := by subst hL; exact rd_b
       have hM : ∀ m : List Int, L rdM ⟨L yln m, fun i _ => .int .u64 (L2 L zh4 m i)⟩ = m := by subst hL; exact rd_m
       obtain ⟨X2, hXv⟩ : ∃ X, X = fX2 p i := ⟨_, rfl⟩
       obtain ⟨Hh, hHv⟩ : ∃ X, X = fwH p i := ⟨_, rfl⟩
       obtain ⟨Mm, hMv⟩ : ∃ X, X = fwM p i := ⟨_, rfl⟩
       obtain ⟨v1, hv1⟩ : ∃ X, X = yeb p i := ⟨_, rfl⟩
       obtain ⟨b1, hb1⟩ : ∃ X, X = zyd p i := ⟨_, rfl⟩
       have hfX : L (L fX2 p) (L Int.toNat (L za7 i)) = X2 := by subst hL; subst hXv; simp only [std, za8]
       have hiH : L (L zs4 (L Fp.b p)) (L Int.toNat (L za7 i)) = Hh := by subst hL; subst hHv; simp only [std, za8]; rfl
       have hfH : L (L fwH p) (L Int.toNat (L za7 i)) = Hh := by subst hL; subst hHv; simp only [std, za8]
       have hiM : L (L zs3 (L Fp.m p)) (L Int.toNat (L za7 i)) = Mm := by subst hL; subst hMv; simp only [std, za8]; rfl
       have hfM : L (L fwM p) (L Int.toNat (L za7 i)) = Mm := by subst hL; subst hMv; simp only [std, za8]
       have hfL : L (L yeb p) (L Int.toNat (L za7 i)) = v1 := by subst hL; subst hv1; simp only [std, za8]
       have hfB : L (L zyd p) (L Int.toNat (L za7 i)) = b1 := by subst hL; subst hb1; simp only [std, za8]
       simp only [hfX, hfL, hfB]
       refine ⟨Nat.le_refl _, tr ⟨fun k3 => ?_, fun k3 => ?_⟩⟩
       · obtain ⟨Z, hZv⟩ : ∃ X, X = zd5 (crD X2 Hh Mm) (-1) := ⟨_, rfl⟩
         have hZ4 : L (L zd5 (L (L (L crD X2) Hh) Mm)) (-1) = Z := by subst hL; subst hZv; rfl
         have hdn : (wx2 p i (fwW p i)).down = true := by
           subst hL
           have k3 : X2.down = true := k3
           rw [hXv] at k3; exact k3
         have hX3 : Z = fX4 p i := by
           rw [hZv, hXv, hHv, hMv]
           show zd5 (crD (wx2 p i (fwW p i)) (fwH p i) (fwM p i)) (-1) = zd5 (wx3 p i (fwW p i)) (-1)
           unfold wx3
           rw [if_pos (.inl hdn)]
         obtain ⟨hcr0, hfin⟩ := zr7 aft (fwH p i) (fwM p i)
         have hcr : ym8 X2 Hh := by rw [hXv, hHv]; exact hcr0
         have hfin : yn6 p i T Z := by rw [hZv, hXv, hHv, hMv]; exact hfin
         have hlok : zx5 Z [109, 97, 105, 110] := yd0 hfin
         obtain ⟨hcase, hcl, hnx⟩ := zqs hfin hX3 hTv hlt
         have hWX : zlp Z nmSp = wfX p (i + 1) := by rw [hX3]; rfl
         have hle5 : zb5 Z.nd <= zb5 (wfX p (i + 1)).nd := by rw [<- hWX]; exact zek _ _
         have hwa : zco .i64 (za7 i) 1 = za7 (i + 1) := zd2 i (by omega)
         have hsb := zft hlt
         refine ⟨⟨fun k4 => ⟨by subst hL; exact zg3 k4, 0, ?_⟩, fun k4 => ⟨0, ?_⟩⟩, fun q2 hq2 => ?_⟩
         · (cbv; try simp only [syT, true_and, and_true])
           simp only [hiH, hfH, hfX]
           repeat' (first | exact Nat.le_refl _ | exact trivial | exact rfl | assumption | refine And.intro ?_ ?_ | intro _)
         · (cbv; try simp only [syT, true_and, and_true])
           simp only [hfH, hfX]
           have hb0 : 0 = L ymx Hh := by
             subst hL; subst hHv
             exact (yih (zc3 k4)).symm
           repeat' (first | exact Nat.le_refl _ | exact trivial | exact rfl | assumption | refine And.intro ?_ ?_ | intro _)
         · (cbv; try simp only [syT, true_and, and_true])
           simp only [hfH, hfX]
           refine ⟨⟨fun k5 => ⟨by subst hL; exact zg3 k5, 0, ?_⟩, fun k5 => ⟨0, ?_⟩⟩, fun q3 hq3 => ?_⟩
           · (cbv; try simp only [syT, true_and, and_true])
             simp only [hiM, hfM, hfX]
             repeat' (first | exact Nat.le_refl _ | exact trivial | exact rfl | assumption | refine And.intro ?_ ?_ | intro _)
           · (cbv; try simp only [syT, true_and, and_true])
             simp only [hfM, hfX]
             have hb0 : 0 = L yln Mm := by
               subst hL; subst hMv
               exact (yig (zc3 k5)).symm
             repeat' (first | exact Nat.le_refl _ | exact trivial | exact rfl | assumption | refine And.intro ?_ ?_ | intro _)
           · (cbv; try simp only [syT, true_and, and_true])
             simp only [hE, hB, hM, hfX, hfH, hfM, hZ4, true_and]
             have hle : zb5 X2.nd <= zb5 (crD X2 Hh Mm).nd := Nat.le_of_eq (zsx _ _ _).symm
             have hle2 : zb5 (crD X2 Hh Mm).nd <= zb5 Z.nd := by rw [hZv]; exact Nat.le_refl _
             have hle7 := Nat.le_trans hle2 hle5
             have hle8 := Nat.le_trans hle hle7
             have hle9 := Nat.le_trans hle hle2
             refine ⟨by subst hL; exact hle, tr ⟨fun _ _ _ _ => trivial, fun _ _ _ _ => trivial, by subst hL; exact hcr, by subst hL; exact hle2, tr ⟨Nat.le_refl _, tr ⟨by subst hL; exact hlok, ?_, ?_⟩⟩⟩⟩
             · intro c1
               have c0 : ziz Z [109, 97, 105, 110] = 0 := by
                 subst hL
                 have c1 : ieq (ziz Z [109, 97, 105, 110]) 0 = true := c1
                 rw [ycf] at c1; exact c1
               obtain ⟨v2, hv2⟩ : ∃ X, X = zt6 p i := ⟨_, rfl⟩
               obtain ⟨b2, hb2⟩ : ∃ X, X = zt7 p i := ⟨_, rfl⟩
               have hfL2 : L (L zt6 p) (L Int.toNat (L za7 i)) = v2 := by subst hL; subst hv2; simp only [std, za8]
               have hfB2 : L (L zt7 p) (L Int.toNat (L za7 i)) = b2 := by subst hL; subst hb2; simp only [std, za8]
               have hfX4 : L (L fX4 p) (L Int.toNat (L za7 i)) = Z := by subst hL; rw [hX3]; simp only [std, za8]
               have hs4 : zpi p i (fwW p i) ↔ ziz Z [109, 97, 105, 110] = 0 /\ zjo Z [109, 97, 105, 110] = T := by rw [hX3, hTv]; exact Iff.rfl
               refine ⟨⟨fun d1 => ⟨0, ?_⟩, fun d1 => ⟨0, ?_⟩⟩, fun q4 hq4 => ?_⟩
               · (cbv; try simp only [syT, true_and, and_true])
                 simp only [hfL2, hfB2, hfX4]
                 have hT2 : T = v2 := by
                   subst hL
                   have d1 : seq (zjo Z [109, 97, 105, 110]) T = true := d1
                   rw [zvq] at d1
                   rw [hv2, hTv]
                   exact (if_pos (hs4.2 ⟨c0, d1⟩)).symm
                 have hB2 : true = b2 := by
                   subst hL
                   have d1 : seq (zjo Z [109, 97, 105, 110]) T = true := d1
                   rw [zvq] at d1
                   rw [hb2]
                   exact (if_pos (hs4.2 ⟨c0, d1⟩)).symm
                 subst hL
                 repeat' (first | exact Nat.le_refl _ | exact trivial | exact hT2 | exact hB2 | assumption | exact rfl | refine And.intro ?_ ?_ | intro _)
               · (cbv; try simp only [syT, true_and, and_true])
                 simp only [hfL2, hfB2, hfX4]
                 have hT2 : v1 = v2 := by
                   subst hL
                   have d1 : seq (zjo Z [109, 97, 105, 110]) T = false := d1
                   rw [zvr] at d1
                   rw [hv2, hv1]
                   exact (if_neg (fun e => d1 (hs4.1 e).2)).symm
                 have hB2 : b1 = b2 := by
                   subst hL
                   have d1 : seq (zjo Z [109, 97, 105, 110]) T = false := d1
                   rw [zvr] at d1
                   rw [hb2, hb1]
                   exact (if_neg (fun e => d1 (hs4.1 e).2)).symm
                 subst hL
                 repeat' (first | exact Nat.le_refl _ | exact trivial | exact hT2 | exact hB2 | assumption | exact rfl | refine And.intro ?_ ?_ | intro _)
               · (cbv; try simp only [syT, true_and, and_true])
                 simp only [hfL2, hfB2, hfX4, hE, true_and]
                 rcases hcase with ⟨f1, f2, f3, f4⟩ | ⟨f1, f2, f3⟩
                 · exfalso
                   rw [c0] at f1; cases f1
                 · have fb : b2 = true := hb2.trans f2
                   have hv9 : v2 = wfL p (i + 1) := hv2
                   have hb9 : true = wfB p (i + 1) := f2.symm
                   have q1 : L not (L (L ynm true) true) = false := by subst hL; rfl
                   have q2 : L not (L2 L seq (L (L zjo Z) [109, 97, 105, 110]) v2) = false := by
                     subst hL
                     show (!seq (zjo Z [109, 97, 105, 110]) v2) = false
                     rw [f3, hv2]; simp [seq]
                   have q3 : L not true = false := by subst hL; rfl
                   simp only [fb, c1, q1, q2, q3, reduceCtorEq, false_imp_iff, true_imp_iff, true_and, and_true, forall_const]
                   refine ⟨by subst hL; exact zek _ _, fun a b ha hb => ?_, ⟨fun _ _ => trivial, fun _ _ _ _ _ _ => trivial⟩, fun _ _ _ _ => trivial, by subst hL; exact zgm hfin, fun e1 => ?_, fun e1 => ⟨i + 1, ?_⟩⟩
                   · obtain rfl : a = 0 := by omega
                     subst hL; rfl
                   · exfalso
                     subst hL
                     have e1 : ine (zp2 Z nmSp) 0 = true := e1
                     rw [hcl] at e1
                     cases e1
                   · (cbv; try simp only [syT, true_and, and_true])
                     subst hL
                     simp only [std, za8]
                     rw [show zlp Z (yb3 [[115, 112, 97, 114, 101]] 0) = wfX p i.succ from hWX]
                     repeat' (first | exact Nat.le_refl _ | exact trivial | exact hv9 | exact hb9 | exact hwa | exact hsb | exact hnx | assumption | exact rfl | refine And.intro ?_ ?_ | intro _)
             · intro c1
               rcases hcase with ⟨f1, f2, f3, f4⟩ | ⟨f1, f2, f3⟩
               · have fb : b1 = false := hb1.trans f2
                 have hv9 : v1 = wfL p (i + 1) := hv1.trans f4.symm
                 have hb9 : false = wfB p (i + 1) := f3.symm
                 have q2 : L (L ine (L (L ziz Z) [109, 97, 105, 110])) 12 = false := by
                   subst hL
                   show ine (ziz Z [109, 97, 105, 110]) 12 = false
                   rw [f1]; decide
                 have q3 : L not (L (L ynm false) false) = false := by subst hL; rfl
                 have q4 : L not false = true := by subst hL; rfl
                 simp only [fb, c1, q2, q3, q4, reduceCtorEq, false_imp_iff, true_imp_iff, true_and, and_true, forall_const]
                 refine ⟨fun d1 => ?_, fun d1 => ?_⟩
                 · refine ⟨by subst hL; exact zek _ _, fun a b ha hb => ?_, ⟨fun _ _ => trivial, fun _ _ _ _ _ _ => trivial⟩, fun _ _ _ _ => trivial, by subst hL; exact zgm hfin, fun e1 => ?_, fun e1 => ⟨i + 1, ?_⟩⟩
                   · obtain rfl : a = 0 := by omega
                     subst hL; rfl
                   · exfalso
                     subst hL
                     have e1 : ine (zp2 Z nmSp) 0 = true := e1
                     rw [hcl] at e1
                     cases e1
                   · (cbv; try simp only [syT, true_and, and_true])
                     subst hL
                     simp only [std, za8]
                     rw [show zlp Z (yb3 [[115, 112, 97, 114, 101]] 0) = wfX p i.succ from hWX]
                     repeat' (first | exact Nat.le_refl _ | exact trivial | exact hv9 | exact hb9 | exact hwa | exact hsb | exact hnx | assumption | exact rfl | refine And.intro ?_ ?_ | intro _)
                 · refine ⟨by subst hL; exact zek _ _, fun a b ha hb => ?_, ⟨fun _ _ => trivial, fun _ _ _ _ _ _ => trivial⟩, fun _ _ _ _ => trivial, by subst hL; exact zgm hfin, fun e1 => ?_, fun e1 => ⟨i + 1, ?_⟩⟩
                   · obtain rfl : a = 0 := by omega
                     subst hL; rfl
                   · exfalso
                     subst hL
                     have e1 : ine (zp2 Z nmSp) 0 = true := e1
                     rw [hcl] at e1
                     cases e1
                   · (cbv; try simp only [syT, true_and, and_true])
                     subst hL
                     simp only [std, za8]
                     rw [show zlp Z (yb3 [[115, 112, 97, 114, 101]] 0) = wfX p i.succ from hWX]
                     repeat' (first | exact Nat.le_refl _ | exact trivial | exact hv9 | exact hb9 | exact hwa | exact hsb | exact hnx | assumption | exact rfl | refine And.intro ?_ ?_ | intro _)
               · exfalso
                 subst hL
                 have c1 : ieq (ziz Z [109, 97, 105, 110]) 0 = false := c1
                 rw [f1] at c1
                 cases c1
       · have hdn : (wx2 p i (fwW p i)).down = false := by
           subst hL
           have k3 : X2.down = false := k3
           rw [hXv] at k3; exact k3
         obtain ⟨X3, hX3v⟩ : ∃ X, X = fX3 p i := ⟨_, rfl⟩
         have hfX3 : L (L fX3 p) (L Int.toNat (L za7 i)) = X3 := by subst hL; subst hX3v; simp only [std, za8]
         obtain ⟨Z, hZv⟩ : ∃ X, X = zd5 X3 (-1) := ⟨_, rfl⟩
         have hZ4 : L (L zd5 X3) (-1) = Z := by subst hL; subst hZv; rfl
         have hX3 : Z = fX4 p i := by rw [hZv, hX3v]; rfl
         obtain ⟨hcr0, hfin0⟩ := zr7 aft (fwH p i) (fwM p i)
         have hcr : ym8 X2 Hh := by rw [hXv, hHv]; exact hcr0
         have hX3c : X3 = if (fwA p i).c = true then crD (fX2 p i) (fwH p i) (fwM p i) else fX2 p i := by
           rw [hX3v]
           show wx3 p i (fwW p i) = _
           unfold wx3
           by_cases hc : (fwA p i).c = true
           · rw [if_pos (.inr hc), if_pos hc]; rfl
           · rw [if_neg (by rintro (e | e); exact (by rw [hdn] at e; cases e); exact hc e), if_neg hc]; rfl
         have hfin : yn6 p i T Z := by
           rw [hZv, hX3c]
           split
           · exact hfin0
           · exact yqg aft hdn
         have hx23 : zb5 X2.nd <= zb5 X3.nd := by
           rw [hX3c, hXv]
           split
           · exact Nat.le_of_eq (zsx _ _ _).symm
           · exact Nat.le_refl _
         have hlok : zx5 Z [109, 97, 105, 110] := yd0 hfin
         obtain ⟨hcase, hcl, hnx⟩ := zqs hfin hX3 hTv hlt
         have hWX : zlp Z nmSp = wfX p (i + 1) := by rw [hX3]; rfl
         have hle5 : zb5 Z.nd <= zb5 (wfX p (i + 1)).nd := by rw [<- hWX]; exact zek _ _
         have hle2 : zb5 X3.nd <= zb5 Z.nd := by rw [hZv]; exact Nat.le_refl _
         have hle7 := Nat.le_trans hle2 hle5
         have hle8 := Nat.le_trans hx23 hle7
         have hle9 := Nat.le_trans hx23 hle2
         have hwa : zco .i64 (za7 i) 1 = za7 (i + 1) := zd2 i (by omega)
         have hsb := zft hlt
         refine ⟨⟨fun k6 => ⟨⟨fun k4 => ⟨by subst hL; exact zg3 k4, 0, ?_⟩, fun k4 => ⟨0, ?_⟩⟩, fun q2 hq2 => ?_⟩, fun k6 => ⟨0, ?_⟩⟩, fun q5 hq5 => ?_⟩
         · (cbv; try simp only [syT, true_and, and_true])
           simp only [hiH, hfH, hfX]
           repeat' (first | exact Nat.le_refl _ | exact trivial | exact rfl | assumption | refine And.intro ?_ ?_ | intro _)
         · (cbv; try simp only [syT, true_and, and_true])
           simp only [hfH, hfX]
           have hb0 : 0 = L ymx Hh := by
             subst hL; subst hHv
             exact (yih (zc3 k4)).symm
           repeat' (first | exact Nat.le_refl _ | exact trivial | exact rfl | assumption | refine And.intro ?_ ?_ | intro _)
         · (cbv; try simp only [syT, true_and, and_true])
           simp only [hfH, hfX]
           refine ⟨⟨fun k5 => ⟨by subst hL; exact zg3 k5, 0, ?_⟩, fun k5 => ⟨0, ?_⟩⟩, fun q3 hq3 => ?_⟩
           · (cbv; try simp only [syT, true_and, and_true])
             simp only [hiM, hfM, hfX]
             repeat' (first | exact Nat.le_refl _ | exact trivial | exact rfl | assumption | refine And.intro ?_ ?_ | intro _)
           · (cbv; try simp only [syT, true_and, and_true])
             simp only [hfM, hfX]
             have hb0 : 0 = L yln Mm := by
               subst hL; subst hMv
               exact (yig (zc3 k5)).symm
             repeat' (first | exact Nat.le_refl _ | exact trivial | exact rfl | assumption | refine And.intro ?_ ?_ | intro _)
           · (cbv; try simp only [syT, true_and, and_true])
             simp only [hE, hB, hM, hfX, hfH, hfM, true_and]
             have hle : zb5 X2.nd <= zb5 (crD X2 Hh Mm).nd := Nat.le_of_eq (zsx _ _ _).symm
             refine ⟨by subst hL; exact hle, tr ⟨fun _ _ _ _ => trivial, fun _ _ _ _ => trivial, by subst hL; exact hcr, 0, ?_⟩⟩
             (cbv; try simp only [syT, true_and, and_true])
             simp only [hE, hB, hM, hfX, hfH, hfM, hfX3, true_and]
             have hXc : crD X2 Hh Mm = X3 := by
               rw [hX3v, hXv, hHv, hMv]
               show crD (wx2 p i (fwW p i)) (fwH p i) (fwM p i) = wx3 p i (fwW p i)
               unfold wx3
               rw [if_pos (.inr (show (fwA p i).c = true by subst hL; subst hYv; exact k6))]
             subst hL
             simp only [std]
             rw [hXc] at hle |-
             repeat' (first | exact Nat.le_refl _ | exact trivial | exact hle | assumption | exact rfl | refine And.intro ?_ ?_ | intro _)
         · (cbv; try simp only [syT, true_and, and_true])
           simp only [hfX, hfX3]
           have hXc : X2 = X3 := by
             rw [hX3c, hXv, if_neg (show ¬ (fwA p i).c = true by subst hL; rw [<- hYv]; intro e; have k6 : Y.c = false := k6; rw [e] at k6; cases k6)]
           subst hL
           simp only [std]
           rw [hXc]
           repeat' (first | exact Nat.le_refl _ | exact trivial | assumption | exact rfl | refine And.intro ?_ ?_ | intro _)
         · (cbv; try simp only [syT, true_and, and_true])
           simp only [hE, hfX3, hZ4, true_and]
           refine ⟨by subst hL; exact hle2, tr ⟨Nat.le_refl _, tr ⟨by subst hL; exact hlok, ?_, ?_⟩⟩⟩
           · intro c1
             have c0 : ziz Z [109, 97, 105, 110] = 0 := by
               subst hL
               have c1 : ieq (ziz Z [109, 97, 105, 110]) 0 = true := c1
               rw [ycf] at c1; exact c1
             obtain ⟨v2, hv2⟩ : ∃ X, X = zt6 p i := ⟨_, rfl⟩
             obtain ⟨b2, hb2⟩ : ∃ X, X = zt7 p i := ⟨_, rfl⟩
             have hfL2 : L (L zt6 p) (L Int.toNat (L za7 i)) = v2 := by subst hL; subst hv2; simp only [std, za8]
             have hfB2 : L (L zt7 p) (L Int.toNat (L za7 i)) = b2 := by subst hL; subst hb2; simp only [std, za8]
             have hfX4 : L (L fX4 p) (L Int.toNat (L za7 i)) = Z := by subst hL; rw [hX3]; simp only [std, za8]
             have hs4 : zpi p i (fwW p i) ↔ ziz Z [109, 97, 105, 110] = 0 /\ zjo Z [109, 97, 105, 110] = T := by rw [hX3, hTv]; exact Iff.rfl
             refine ⟨⟨fun d1 => ⟨0, ?_⟩, fun d1 => ⟨0, ?_⟩⟩, fun q4 hq4 => ?_⟩
             · (cbv; try simp only [syT, true_and, and_true])
               simp only [hfL2, hfB2, hfX4]
               have hT2 : T = v2 := by
                 subst hL
                 have d1 : seq (zjo Z [109, 97, 105, 110]) T = true := d1
                 rw [zvq] at d1
                 rw [hv2, hTv]
                 exact (if_pos (hs4.2 ⟨c0, d1⟩)).symm
               have hB2 : true = b2 := by
                 subst hL
                 have d1 : seq (zjo Z [109, 97, 105, 110]) T = true := d1
                 rw [zvq] at d1
                 rw [hb2]
                 exact (if_pos (hs4.2 ⟨c0, d1⟩)).symm
               subst hL
               repeat' (first | exact Nat.le_refl _ | exact trivial | exact hT2 | exact hB2 | assumption | exact rfl | refine And.intro ?_ ?_ | intro _)
             · (cbv; try simp only [syT, true_and, and_true])
               simp only [hfL2, hfB2, hfX4]
               have hT2 : v1 = v2 := by
                 subst hL
                 have d1 : seq (zjo Z [109, 97, 105, 110]) T = false := d1
                 rw [zvr] at d1
                 rw [hv2, hv1]
                 exact (if_neg (fun e => d1 (hs4.1 e).2)).symm
               have hB2 : b1 = b2 := by
                 subst hL
                 have d1 : seq (zjo Z [109, 97, 105, 110]) T = false := d1
                 rw [zvr] at d1
                 rw [hb2, hb1]
                 exact (if_neg (fun e => d1 (hs4.1 e).2)).symm
               subst hL
               repeat' (first | exact Nat.le_refl _ | exact trivial | exact hT2 | exact hB2 | assumption | exact rfl | refine And.intro ?_ ?_ | intro _)
             · (cbv; try simp only [syT, true_and, and_true])
               simp only [hfL2, hfB2, hfX4, hE, true_and]
               rcases hcase with ⟨f1, f2, f3, f4⟩ | ⟨f1, f2, f3⟩
               · exfalso
                 rw [c0] at f1; cases f1
               · have fb : b2 = true := hb2.trans f2
                 have hv9 : v2 = wfL p (i + 1) := hv2
                 have hb9 : true = wfB p (i + 1) := f2.symm
                 have q1 : L not (L (L ynm true) true) = false := by subst hL; rfl
                 have q2 : L not (L2 L seq (L (L zjo Z) [109, 97, 105, 110]) v2) = false := by
                   subst hL
                   show (!seq (zjo Z [109, 97, 105, 110]) v2) = false
                   rw [f3, hv2]; simp [seq]
                 have q3 : L not true = false := by subst hL; rfl
                 simp only [fb, c1, q1, q2, q3, reduceCtorEq, false_imp_iff, true_imp_iff, true_and, and_true, forall_const]
                 refine ⟨by subst hL; exact zek _ _, fun a b ha hb => ?_, ⟨fun _ _ => trivial, fun _ _ _ _ _ _ => trivial⟩, fun _ _ _ _ => trivial, by subst hL; exact zgm hfin, fun e1 => ?_, fun e1 => ⟨i + 1, ?_⟩⟩
                 · obtain rfl : a = 0 := by omega
                   subst hL; rfl
                 · exfalso
                   subst hL
                   have e1 : ine (zp2 Z nmSp) 0 = true := e1
                   rw [hcl] at e1
                   cases e1
                 · (cbv; try simp only [syT, true_and, and_true])
                   subst hL
                   simp only [std, za8]
                   rw [show zlp Z (yb3 [[115, 112, 97, 114, 101]] 0) = wfX p i.succ from hWX]
                   repeat' (first | exact Nat.le_refl _ | exact trivial | exact hv9 | exact hb9 | exact hwa | exact hsb | exact hnx | assumption | exact rfl | refine And.intro ?_ ?_ | intro _)
           · intro c1
             rcases hcase with ⟨f1, f2, f3, f4⟩ | ⟨f1, f2, f3⟩
             · have fb : b1 = false := hb1.trans f2
               have hv9 : v1 = wfL p (i + 1) := hv1.trans f4.symm
               have hb9 : false = wfB p (i + 1) := f3.symm
               have q2 : L (L ine (L (L ziz Z) [109, 97, 105, 110])) 12 = false := by
                 subst hL
                 show ine (ziz Z [109, 97, 105, 110]) 12 = false
                 rw [f1]; decide
               have q3 : L not (L (L ynm false) false) = false := by subst hL; rfl
               have q4 : L not false = true := by subst hL; rfl
               simp only [fb, c1, q2, q3, q4, reduceCtorEq, false_imp_iff, true_imp_iff, true_and, and_true, forall_const]
               refine ⟨fun d1 => ?_, fun d1 => ?_⟩
               · refine ⟨by subst hL; exact zek _ _, fun a b ha hb => ?_, ⟨fun _ _ => trivial, fun _ _ _ _ _ _ => trivial⟩, fun _ _ _ _ => trivial, by subst hL; exact zgm hfin, fun e1 => ?_, fun e1 => ⟨i + 1, ?_⟩⟩
                 · obtain rfl : a = 0 := by omega
                   subst hL; rfl
                 · exfalso
                   subst hL
                   have e1 : ine (zp2 Z nmSp) 0 = true := e1
                   rw [hcl] at e1
                   cases e1
                 · (cbv; try simp only [syT, true_and, and_true])
                   subst hL
                   simp only [std, za8]
                   rw [show zlp Z (yb3 [[115, 112, 97, 114, 101]] 0) = wfX p i.succ from hWX]
                   repeat' (first | exact Nat.le_refl _ | exact trivial | exact hv9 | exact hb9 | exact hwa | exact hsb | exact hnx | assumption | exact rfl | refine And.intro ?_ ?_ | intro _)
               · refine ⟨by subst hL; exact zek _ _, fun a b ha hb => ?_, ⟨fun _ _ => trivial, fun _ _ _ _ _ _ => trivial⟩, fun _ _ _ _ => trivial, by subst hL; exact zgm hfin, fun e1 => ?_, fun e1 => ⟨i + 1, ?_⟩⟩
                 · obtain rfl : a = 0 := by omega
                   subst hL; rfl
                 · exfalso
                   subst hL
                   have e1 : ine (zp2 Z nmSp) 0 = true := e1
                   rw [hcl] at e1
                   cases e1
                 · (cbv; try simp only [syT, true_and, and_true])
                   subst hL
                   simp only [std, za8]
                   rw [show zlp Z (yb3 [[115, 112, 97, 114, 101]] 0) = wfX p i.succ from hWX]
                   repeat' (first | exact Nat.le_refl _ | exact trivial | exact hv9 | exact hb9 | exact hwa | exact hsb | exact hnx | assumption | exact rfl | refine And.intro ?_ ?_ | intro _)
             · exfalso
               subst hL
               have c1 : ieq (ziz Z [109, 97, 105, 110]) 0 = false := c1
               rw [f1] at c1
               cases c1
   · subst hQ; rw [zck]
theorem avBs (l : List (List Bool)) (i j : Nat) (h : i < l.length) : avL (fun b _ => zgy std b) l i j = zgy std (zs4 l i) := by
 rw [avL, zs4, List.getD_eq_getElem?_getD, List.getElem?_eq_getElem h]; rfl
theorem avMs (l : List (List Int)) (i j : Nat) (h : i < l.length) : avL (fun b _ => zlu std b) l i j = zlu std (zs3 l i) := by
 rw [avL, zs3, List.getD_eq_getElem?_getD, List.getElem?_eq_getElem h]; rfl
theorem law_FileWhole (l : List Wc) (hl : l.length <= maxLen /\ ∀ y ∈ l, yqn y) (b : List (List Bool)) (hb : b.length <= maxLen /\ ∀ y ∈ b, True) (m : List (List Int)) (hm : m.length <= maxLen /\ ∀ y ∈ m, True) :
   zbk Try.prog 6 [.lst 6 l.length (avL (wcC std) l), .lst 1 b.length (avL (fun b _ => zgy std b) b), .lst 1 m.length (avL (fun b _ => zlu std b) m)] (.bool true) :=
 yn0 (fun hp D vs hr => by
   refine ⟨by rw [<- hr.1]; rfl, fun i z v hz hv => ?_⟩
   match i, hz with
   | 0, hz => cases hz; exact ygi (fun i j hi hj => avWc l i j hi) (hr.2 0 _ v rfl hv)
   | 1, hz => cases hz; exact ygi (fun i j hi hj => avBs b i j hi) (hr.2 1 _ v rfl hv)
   | 2, hz => cases hz; exact ygi (fun i j hi hj => avMs m i j hi) (hr.2 2 _ v rfl hv)
   | i + 3, hz => exact hr.2 (i + 3) z v hz hv) (yel ⟨l, b, m⟩ hl.2)
end Sy
end Go.Proofs.Ytogomcfgfnlclaa
