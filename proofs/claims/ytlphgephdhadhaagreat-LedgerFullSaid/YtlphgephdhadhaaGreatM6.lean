/-Chapter 7 (codec): writings. Chapter 7 (codec): values made, put; the chapter's example. Chapter 16 (ledger): the chapter's example; prints that are built; the turns of LedgerHolds; and what stands between these and the texts behind.-/
import Derived.Test.YtlphgephdhadhaaGreatM5
namespace Go.Proofs.YtlphgephdhadhaaGreat
namespace Sy
open Go Go.RowKit
set_option maxRecDepth 100000
set_option linter.unusedSimpArgs false
set_option linter.unusedVariables false
mutual
def wfV : CV -> Prop
 | .mk _ n s l => zeg n /\ s.length <= 9223372036854775807 /\ ygq l
def ygq : List CV -> Prop
 | [] => True
 | v :: l => wfV v /\ ygq l
end
theorem yf8 : ∀ {l : List CV} {i : Nat}, ygq l -> i < l.length -> wfV (zf3 l i)
 | [], i, _, h => by simp at h
 | v :: l, 0, w, _ => by rw [ygq] at w; exact w.1
 | v :: l, i + 1, w, h => by rw [ygq] at w; exact yf8 (l := l) w.2 (by simpa using h)
theorem zhw (l : List CV) : ∀ i, (zgl l i).length <= (zd9 l).length := by
 intro i
 have := zhx (l.take i) (l.drop i)
 rw [List.take_append_drop] at this
 rw [this, List.length_append, zgl]; omega
theorem zax (k n : Int) (s : List UInt8) (l : List CV) : zds (.mk k n s l) = zl4 k ++ if k = 1 then zbb n else if k = 2 then zbb s.length ++ s else zbb l.length ++ zd9 l := by rw [zds]
def zwi (v : CV) : Prop := wfV v /\ (zds v).length <= 90000000
theorem zw9 {k n : Int} {s : List UInt8} {l : List CV} : zwi (.mk k n s l) = ((zeg n /\ s.length <= 9223372036854775807 /\ ygq l) /\ (zds (.mk k n s l)).length <= 90000000) := by
 unfold zwi; rw [wfV]
theorem zgz {x : Int} (h : 0 <= x) (h1 : x < 18446744073709551616) : x % 18446744073709551616 = x := Int.emod_eq_of_lt h h1
theorem zhu {k n : Int} {s : List UInt8} {l : List CV} (h : wfV (.mk k n s l)) : (s.length : Int) % 18446744073709551616 = s.length := by
 rw [wfV] at h
 exact zgz (by omega) (by omega)
theorem zl1 {N : Nat} {k n : Int} {s : List UInt8} {l : List CV} (h : zo8 (N + 1) (.mk k n s l)) : zeg ((l.length : Nat) : Int) := by
 rw [zch] at h
 have := zlw l
 have h1 := h.1.1
 have h2 := h.1.2
 exact ⟨by omega, by omega⟩
theorem zhv {N : Nat} {k n : Int} {s : List UInt8} {l : List CV} (h : zo8 (N + 1) (.mk k n s l)) : ((lenL l : Nat) : Int) % 18446744073709551616 = ((l.length : Nat) : Int) := by
 have := zl1 h
 exact zgz this.1 this.2
theorem yf9 {k n : Int} {s : List UInt8} {l : List CV} (h : zwi (.mk k n s l)) (h1 : k ≠ 1) (h2 : k ≠ 2) {i : Nat} (hi : i < l.length) : zwi (zf3 l i) := by
 rw [zw9] at h
 refine ⟨yf8 h.1.2.2 hi, ?_⟩
 have h3 := h.2
 have h4 := zdt hi
 have h5 := zhw l (i + 1)
 rw [h4, List.length_append] at h5
 rw [zax, if_neg h1, if_neg h2] at h3
 simp only [List.length_append] at h3
 omega
def zmu (b : List UInt8) (k : Int) (l : List CV) (i : Nat) : List UInt8 := b ++ zl4 k ++ zbb l.length ++ zgl l i
def putA (L : za9) (b : List UInt8) (k : Int) (l : List CV) : Nat -> St -> Option Ann := fun id s => match id with
 | 1 => some ⟨Nat, fun i => [(23, .int .i64 (L zab i))], fun i => [(500000, .box 97 [.ref 500000 0, .sl 901 1 0 (L lenN (L (L3 L zmu b k l) i))]), (901, .row 5 1 (L lenN (L (L3 L zmu b k l) i)) (fun j _ => .int .u8 (L2 L zat (L (L3 L zmu b k l) i) j)))], [0, 21, 22], [],
     fun i => L2 L (fun (l : List CV) i => i <= l.length) l i, fun i => L2 L (fun (l : List CV) (i : Nat) => l.length - i) l i⟩
 | _ => none
def zoj (N : Nat) (L : za9) : zfp := (52, fun raw ob => match raw with
 | [.ref id 0, .agg [.int .i64 k, .int .u64 n, .str s, x]] => match yb9 L ob id with
   | some none => some ⟨[.ref 500000 0, .agg [.int .i64 k, .int .u64 n, .str s, x]], ykq, L okL x /\ L2 L zo8 N (mkV L k n s x) /\ L zwi (mkV L k n s x), .tup [], zrt L (L zds (mkV L k n s x))⟩
   | some (some l) => some ⟨[.ref 500000 0, .agg [.int .i64 k, .int .u64 n, .str s, x]], bld L l, L okL x /\ L2 L zo8 N (mkV L k n s x) /\ L zwi (mkV L k n s x) /\ L2 L zf8 l (L zds (mkV L k n s x)), .tup [], zrt L (L2 L za6 l (L zds (mkV L k n s x)))⟩
   | none => none
 | _ => none)
theorem ylj {b : List UInt8} {k n : Int} {s : List UInt8} {l : List CV} (h : zf8 b (zds (.mk k n s l))) : zf8 b (zc5 (k % 256)) := by
 rw [zax] at h
 unfold zf8 at h |-
 have : (zl4 k).length = 1 := rfl
 have : (zc5 (k % 256)).length = 1 := rfl
 rw [List.length_append] at h
 omega
theorem zsd {b q : List UInt8} {k : Int} (h : zf8 b (zl4 k ++ q)) : zf8 (za6 b (zc5 (k % 256))) q := by
 unfold zf8 za6 at *
 have : (zl4 k).length = 1 := rfl
 have : (zc5 (k % 256)).length = 1 := rfl
 rw [List.length_append] at h |-
 omega
theorem yfh {b q r : List UInt8} {k : Int} (h : zf8 b (zl4 k ++ (q ++ r))) : zf8 (za6 b (zc5 (k % 256))) q := by
 unfold zf8 za6 at *
 have : (zl4 k).length = 1 := rfl
 have : (zc5 (k % 256)).length = 1 := rfl
 rw [List.length_append, List.length_append] at h
 rw [List.length_append]
 omega
theorem zsb {x y : List UInt8} (h : x = y) : (lenN x = lenN y /\ ∀ i j : Nat, i < lenN y -> j < 1 -> AV.int .u8 (zat x i) = AV.int .u8 (zat y i)) /\ lenN x = lenN y := by
 subst h; exact ⟨⟨rfl, fun _ _ _ _ => rfl⟩, rfl⟩
theorem yfe {b q t : List UInt8} {k : Int} (h : t = zl4 k ++ q) : (lenN (za6 (za6 b (zc5 (k % 256))) q) = lenN (za6 b t) /\ ∀ i j : Nat, i < lenN (za6 b t) -> j < 1 -> AV.int .u8 (zat (za6 (za6 b (zc5 (k % 256))) q) i) = AV.int .u8 (zat (za6 b t) i)) /\ lenN (za6 (za6 b (zc5 (k % 256))) q) = lenN (za6 b t) :=
 zsb (by rw [h]; unfold za6; rw [List.append_assoc]; rfl)
theorem yff {q t : List UInt8} {k : Int} (h : t = zl4 k ++ q) : (lenN (za6 (zc5 (k % 256)) q) = lenN t /\ ∀ i j : Nat, i < lenN t -> j < 1 -> AV.int .u8 (zat (za6 (zc5 (k % 256)) q) i) = AV.int .u8 (zat t i)) /\ lenN (za6 (zc5 (k % 256)) q) = lenN t :=
 zsb (by rw [h]; rfl)
theorem yho {N : Nat} (ih : zcc Tryz.prog (zoj N std)) (b : List UInt8) (k n : Int) (s : List UInt8) (l : List CV) (hz : zo8 (N + 1) (.mk k n s l)) (hw : zwi (.mk k n s l)) (hb : zf8 b (zds (.mk k n s l))) :
   zan Tryz.prog 52 [.ref 500000 0, .agg [.int .i64 k, .int .u64 n, .str s, cvL std l]] (bld std b) (.tup []) (zrt std (za6 b (zds (.mk k n s l)))) := by
 refine zaj (T := tt) (S := fun L => zb0 [zhy L] [ynz L, ynx L, zoj N L]) (lo := fun L => putA L b k l) (lb := noA) 5 (fn := Tryz.f52) (xs := fun L => [.ref 500000 0, .agg [.int .i64 k, .int .u64 n, .str s, cvL L l]]) (rts := fun _ => []) (O := fun L => bld L b) (O1 := fun L => zrt L (L2 L za6 b (L zds (.mk k n s l))))
   rfl rfl (by kernel_rfl) (by kernel_rfl) (by kernel_rfl) zae (za8 ⟨zg7, trivial⟩ ⟨zwa, zw5, ih, trivial⟩) (by kernel_rfl) ?_
 intro L P' Q' hL hP hQ
 have hB : ∀ b : List UInt8, L (L bytesOf (L lenN b)) (fun i => (AV.int .u8 (L2 L zat b i)).toI) = b := by subst hL; exact zez
 (cbv; try simp only [syT, true_and, and_true])
 simp only [hB]
 refine ⟨⟨trivial, fun _ _ _ _ => trivial⟩, trivial, ⟨?_, ?_⟩, fun h1 => ⟨?_, ⟨trivial, fun _ _ _ _ => trivial⟩, trivial, ?_, ?_⟩, fun h1 => ⟨fun h2 => ⟨?_, ?_, ⟨trivial, fun _ _ _ _ => trivial⟩, trivial, ?_, ?_⟩, fun h2 => ⟨?_, ⟨trivial, fun _ _ _ _ => trivial⟩, trivial, ?_, ⟨0, ?_⟩, fun i hi => ?_⟩⟩⟩
 · (subst hL; subst hQ; simp only [L2, L3, std] at *; try simp only [syS, reduceCtorEq, Int.reduceToNat, Int.reduceAdd, Int.reduceSub] at *)
   exact ⟨Int.emod_nonneg _ (by omega), Int.emod_lt_of_pos _ (by omega)⟩
 · (subst hL; subst hQ; simp only [L2, L3, std] at *; try simp only [syS, reduceCtorEq, Int.reduceToNat, Int.reduceAdd, Int.reduceSub] at *)
   exact ylj hb
 · (subst hL; subst hQ; simp only [L2, L3, std] at *; try simp only [syS, reduceCtorEq, Int.reduceToNat, Int.reduceAdd, Int.reduceSub] at *)
   rw [zw9] at hw
   exact hw.1.1
 · (subst hL; subst hQ; simp only [L2, L3, std] at *; try simp only [syS, reduceCtorEq, Int.reduceToNat, Int.reduceAdd, Int.reduceSub] at *)
   rw [zax, if_pos h1] at hb
   exact zsd hb
 · (subst hL; subst hQ; simp only [L2, L3, std] at *; try simp only [syS, reduceCtorEq, Int.reduceToNat, Int.reduceAdd, Int.reduceSub] at *)
   exact yfe (by rw [zax, if_pos h1])
 · (subst hL; subst hQ; simp only [L2, L3, std] at *; try simp only [syS, reduceCtorEq, Int.reduceToNat, Int.reduceAdd, Int.reduceSub] at *)
   rw [zw9] at hw
   rw [zgz (by omega) (by omega)]
   exact ⟨by omega, by omega⟩
 · (subst hL; subst hQ; simp only [L2, L3, std] at *; try simp only [syS, reduceCtorEq, Int.reduceToNat, Int.reduceAdd, Int.reduceSub] at *)
   rw [zhu hw.1]
   have h3 := hw.2
   rw [zax, if_neg h1, if_pos h2] at h3
   simp at h3 |-
   omega
 · (subst hL; subst hQ; simp only [L2, L3, std] at *; try simp only [syS, reduceCtorEq, Int.reduceToNat, Int.reduceAdd, Int.reduceSub] at *)
   rw [zhu hw.1]
   rw [zax, if_neg h1, if_pos h2] at hb
   exact zsd hb
 · (subst hL; subst hQ; simp only [L2, L3, std] at *; try simp only [syS, reduceCtorEq, Int.reduceToNat, Int.reduceAdd, Int.reduceSub] at *)
   rw [zhu hw.1]
   exact yfe (by rw [zax, if_neg h1, if_pos h2])
 · (subst hL; subst hQ; simp only [L2, L3, std] at *; try simp only [syS, reduceCtorEq, Int.reduceToNat, Int.reduceAdd, Int.reduceSub] at *)
   rw [zhv hz]
   exact zl1 hz
 · (subst hL; subst hQ; simp only [L2, L3, std] at *; try simp only [syS, reduceCtorEq, Int.reduceToNat, Int.reduceAdd, Int.reduceSub] at *)
   rw [zhv hz]
   rw [zax, if_neg h1, if_neg h2] at hb
   exact yfh hb
 · (cbv; try simp only [syT, true_and, and_true])
   (subst hL; subst hQ; simp only [L2, L3, std] at *; try simp only [syS, reduceCtorEq, Int.reduceToNat, Int.reduceAdd, Int.reduceSub] at *)
   rw [zhv hz]
   have e : za6 (za6 b (zc5 (k % 256))) (zbb ((l.length : Nat) : Int)) = zmu b k l 0 := by
     rw [zmu, zgl, List.take_zero, zd9, List.append_nil]; rfl
   rw [e]
   exact ⟨⟨rfl, fun _ _ _ _ => rfl⟩, rfl, Nat.zero_le _⟩
 · cbv at hi
   (cbv; try simp only [syT, true_and, and_true])
   simp only [hB]
   refine ⟨fun hlt => ⟨?_, ⟨trivial, fun _ _ _ _ => trivial⟩, trivial, fun _ _ _ _ => trivial, ⟨?_, ?_, ?_, ?_⟩, ⟨i + 1, ?_⟩⟩, fun hge => ?_⟩
   · (subst hL; subst hQ; simp only [L2, L3, std] at *; try simp only [syS, reduceCtorEq, Int.reduceToNat, Int.reduceAdd, Int.reduceSub] at *)
     omega
   · (subst hL; subst hQ; simp only [L2, L3, std] at *; try simp only [syS, reduceCtorEq, Int.reduceToNat, Int.reduceAdd, Int.reduceSub] at *)
     exact (zmt _).2
   · (subst hL; subst hQ; simp only [L2, L3, std] at *; try simp only [syS, reduceCtorEq, Int.reduceToNat, Int.reduceAdd, Int.reduceSub] at *)
     rw [zfc]
     rw [zch] at hz
     exact zsq hz.1 (by have : lenL l = l.length := rfl; omega)
   · (subst hL; subst hQ; simp only [L2, L3, std] at *; try simp only [syS, reduceCtorEq, Int.reduceToNat, Int.reduceAdd, Int.reduceSub] at *)
     rw [zca]
     exact yf9 hw (by omega) (by omega) (by have : lenL l = l.length := rfl; omega)
   · (subst hL; subst hQ; simp only [L2, L3, std] at *; try simp only [syS, reduceCtorEq, Int.reduceToNat, Int.reduceAdd, Int.reduceSub] at *)
     rw [zca]
     have h4 := zdt (l := l) (i := i) (by have : lenL l = l.length := rfl; omega)
     have h5 := zhw l (i + 1)
     rw [h4, List.length_append] at h5
     rw [zax, if_neg h1, if_neg h2] at hb
     unfold zf8 at hb |-
     simp only [List.length_append, zmu] at hb |-
     omega
   · (cbv; try simp only [syT, true_and, and_true])
     (subst hL; subst hQ; simp only [L2, L3, std] at *; try simp only [syS, reduceCtorEq, Int.reduceToNat, Int.reduceAdd, Int.reduceSub] at *)
     have : lenL l = l.length := rfl
     have := zlw l
     rw [zch] at hz
     have h4 := hz.1.1
     have h5 := hz.1.2
     rw [zca]
     have e : za6 (zmu b k l i) (zds (zf3 l i)) = zmu b k l (i + 1) := by
       rw [zmu, zmu, zdt (by omega)]; unfold za6; simp only [List.append_assoc]
     rw [e]
     exact ⟨⟨rfl, fun _ _ _ _ => rfl⟩, rfl, by omega, by omega, by omega⟩
   · (subst hL; subst hQ; simp only [L2, L3, std] at *; try simp only [syS, reduceCtorEq, Int.reduceToNat, Int.reduceAdd, Int.reduceSub] at *)
     have : lenL l = l.length := rfl
     have hil : i = l.length := by omega
     exact zsb (by rw [zax, if_neg h1, if_neg h2, zmu, hil, zgl, List.take_length]; unfold za6; simp only [List.append_assoc])
theorem yhp {N : Nat} (ih : zcc Tryz.prog (zoj N std)) (k n : Int) (s : List UInt8) (l : List CV) (hz : zo8 (N + 1) (.mk k n s l)) (hw : zwi (.mk k n s l)) :
   zan Tryz.prog 52 [.ref 500000 0, .agg [.int .i64 k, .int .u64 n, .str s, cvL std l]] ykq (.tup []) (zrt std (zds (.mk k n s l))) := by
 refine zaj (T := tt) (S := fun L => zb0 [zhy L] [ynz L, ynx L, zoj N L]) (lo := fun L => putA L [] k l) (lb := noA) 5 (fn := Tryz.f52) (xs := fun L => [.ref 500000 0, .agg [.int .i64 k, .int .u64 n, .str s, cvL L l]]) (rts := fun _ => []) (O := fun L => ykq) (O1 := fun L => zrt L (L zds (.mk k n s l)))
   rfl rfl (by kernel_rfl) (by kernel_rfl) (by kernel_rfl) zae (za8 ⟨zg7, trivial⟩ ⟨zwa, zw5, ih, trivial⟩) (by kernel_rfl) ?_
 intro L P' Q' hL hP hQ
 have hb : zf8 [] (zds (.mk k n s l)) := by have := hw.2; unfold zf8; simp; omega
 have hB : ∀ b : List UInt8, L (L bytesOf (L lenN b)) (fun i => (AV.int .u8 (L2 L zat b i)).toI) = b := by subst hL; exact zez
 (cbv; try simp only [syT, true_and, and_true])
 simp only [hB]
 refine ⟨?_, fun h1 => ⟨?_, ⟨trivial, fun _ _ _ _ => trivial⟩, trivial, ?_, ?_⟩, fun h1 => ⟨fun h2 => ⟨?_, ?_, ⟨trivial, fun _ _ _ _ => trivial⟩, trivial, ?_, ?_⟩, fun h2 => ⟨?_, ⟨trivial, fun _ _ _ _ => trivial⟩, trivial, ?_, ⟨0, ?_⟩, fun i hi => ?_⟩⟩⟩
 · (subst hL; subst hQ; simp only [L2, L3, std] at *; try simp only [syS, reduceCtorEq, Int.reduceToNat, Int.reduceAdd, Int.reduceSub] at *)
   exact ⟨Int.emod_nonneg _ (by omega), Int.emod_lt_of_pos _ (by omega)⟩
 · (subst hL; subst hQ; simp only [L2, L3, std] at *; try simp only [syS, reduceCtorEq, Int.reduceToNat, Int.reduceAdd, Int.reduceSub] at *)
   rw [zw9] at hw
   exact hw.1.1
 · (subst hL; subst hQ; simp only [L2, L3, std] at *; try simp only [syS, reduceCtorEq, Int.reduceToNat, Int.reduceAdd, Int.reduceSub] at *)
   rw [zax, if_pos h1] at hb
   exact zsd hb
 · (subst hL; subst hQ; simp only [L2, L3, std] at *; try simp only [syS, reduceCtorEq, Int.reduceToNat, Int.reduceAdd, Int.reduceSub] at *)
   exact yff (by rw [zax, if_pos h1])
 · (subst hL; subst hQ; simp only [L2, L3, std] at *; try simp only [syS, reduceCtorEq, Int.reduceToNat, Int.reduceAdd, Int.reduceSub] at *)
   rw [zw9] at hw
   rw [zgz (by omega) (by omega)]
   exact ⟨by omega, by omega⟩
 · (subst hL; subst hQ; simp only [L2, L3, std] at *; try simp only [syS, reduceCtorEq, Int.reduceToNat, Int.reduceAdd, Int.reduceSub] at *)
   rw [zhu hw.1]
   have h3 := hw.2
   rw [zax, if_neg h1, if_pos h2] at h3
   simp at h3 |-
   omega
 · (subst hL; subst hQ; simp only [L2, L3, std] at *; try simp only [syS, reduceCtorEq, Int.reduceToNat, Int.reduceAdd, Int.reduceSub] at *)
   rw [zhu hw.1]
   rw [zax, if_neg h1, if_pos h2] at hb
   exact zsd hb
 · (subst hL; subst hQ; simp only [L2, L3, std] at *; try simp only [syS, reduceCtorEq, Int.reduceToNat, Int.reduceAdd, Int.reduceSub] at *)
   rw [zhu hw.1]
   exact yff (by rw [zax, if_neg h1, if_pos h2])
 · (subst hL; subst hQ; simp only [L2, L3, std] at *; try simp only [syS, reduceCtorEq, Int.reduceToNat, Int.reduceAdd, Int.reduceSub] at *)
   rw [zhv hz]
   exact zl1 hz
 · (subst hL; subst hQ; simp only [L2, L3, std] at *; try simp only [syS, reduceCtorEq, Int.reduceToNat, Int.reduceAdd, Int.reduceSub] at *)
   rw [zhv hz]
   rw [zax, if_neg h1, if_neg h2] at hb
   exact yfh hb
 · (cbv; try simp only [syT, true_and, and_true])
   (subst hL; subst hQ; simp only [L2, L3, std] at *; try simp only [syS, reduceCtorEq, Int.reduceToNat, Int.reduceAdd, Int.reduceSub] at *)
   rw [zhv hz]
   have e : za6 (zc5 (k % 256)) (zbb ((l.length : Nat) : Int)) = zmu [] k l 0 := by
     rw [zmu, zgl, List.take_zero, zd9, List.append_nil]; rfl
   rw [e]
   exact ⟨⟨rfl, fun _ _ _ _ => rfl⟩, rfl, Nat.zero_le _⟩
 · cbv at hi
   (cbv; try simp only [syT, true_and, and_true])
   simp only [hB]
   refine ⟨fun hlt => ⟨?_, ⟨trivial, fun _ _ _ _ => trivial⟩, trivial, fun _ _ _ _ => trivial, ⟨?_, ?_, ?_, ?_⟩, ⟨i + 1, ?_⟩⟩, fun hge => ?_⟩
   · (subst hL; subst hQ; simp only [L2, L3, std] at *; try simp only [syS, reduceCtorEq, Int.reduceToNat, Int.reduceAdd, Int.reduceSub] at *)
     omega
   · (subst hL; subst hQ; simp only [L2, L3, std] at *; try simp only [syS, reduceCtorEq, Int.reduceToNat, Int.reduceAdd, Int.reduceSub] at *)
     exact (zmt _).2
   · (subst hL; subst hQ; simp only [L2, L3, std] at *; try simp only [syS, reduceCtorEq, Int.reduceToNat, Int.reduceAdd, Int.reduceSub] at *)
     rw [zfc]
     rw [zch] at hz
     exact zsq hz.1 (by have : lenL l = l.length := rfl; omega)
   · (subst hL; subst hQ; simp only [L2, L3, std] at *; try simp only [syS, reduceCtorEq, Int.reduceToNat, Int.reduceAdd, Int.reduceSub] at *)
     rw [zca]
     exact yf9 hw (by omega) (by omega) (by have : lenL l = l.length := rfl; omega)
   · (subst hL; subst hQ; simp only [L2, L3, std] at *; try simp only [syS, reduceCtorEq, Int.reduceToNat, Int.reduceAdd, Int.reduceSub] at *)
     rw [zca]
     have h4 := zdt (l := l) (i := i) (by have : lenL l = l.length := rfl; omega)
     have h5 := zhw l (i + 1)
     rw [h4, List.length_append] at h5
     rw [zax, if_neg h1, if_neg h2] at hb
     unfold zf8 at hb |-
     simp only [List.length_append, zmu] at hb |-
     omega
   · (cbv; try simp only [syT, true_and, and_true])
     (subst hL; subst hQ; simp only [L2, L3, std] at *; try simp only [syS, reduceCtorEq, Int.reduceToNat, Int.reduceAdd, Int.reduceSub] at *)
     have : lenL l = l.length := rfl
     have := zlw l
     rw [zch] at hz
     have h4 := hz.1.1
     have h5 := hz.1.2
     rw [zca]
     have e : za6 (zmu [] k l i) (zds (zf3 l i)) = zmu [] k l (i + 1) := by
       rw [zmu, zmu, zdt (by omega)]; unfold za6; simp only [List.append_assoc]
     rw [e]
     exact ⟨⟨rfl, fun _ _ _ _ => rfl⟩, rfl, by omega, by omega, by omega⟩
   · (subst hL; subst hQ; simp only [L2, L3, std] at *; try simp only [syS, reduceCtorEq, Int.reduceToNat, Int.reduceAdd, Int.reduceSub] at *)
     have : lenL l = l.length := rfl
     have hil : i = l.length := by omega
     exact zsb (by rw [zax, if_neg h1, if_neg h2, zmu, hil, zgl, List.take_length, List.nil_append, List.append_assoc])
theorem zyw {P : Program} {f : FuncId} {xs ys : List AV} {O O1 : List (Nat × Ob)} {r : AV} (e : ∀ h D μ vs, RL h D μ xs vs -> RL h D μ ys vs) (hm : zan P f ys O r O1) : zan P f xs O r O1 :=
 fun D w μ vs hD hx => hm D w μ vs hD (e _ _ _ _ hx)
theorem yag : ∀ N, zcc Tryz.prog (zoj N std) := by
 intro N
 induction N with
 | zero =>
   intro raw ob T hT hp
   unfold zoj at hT
   simp only at hT
   split at hT
   · rename_i k n s x
     split at hT <;> cases hT
     · have h1 : sizeC (mkV std k n s x) <= 0 := hp.2.1.1
       have := zen (mkV std k n s x)
       omega
     · have h1 : sizeC (mkV std k n s x) <= 0 := hp.2.1.1
       have := zen (mkV std k n s x)
       omega
   · cases hT
 | succ N ih =>
   intro raw ob T hT hp
   unfold zoj at hT
   simp only at hT
   split at hT
   rotate_left
   · cases hT
   rename_i k n s x
   split at hT <;> cases hT
   · refine zyw (fun h D μ vs hr => rl_2 (fun v => ygt hp.1) hr) ?_
     exact yhp ih k n s (rdL x) hp.2.1 hp.2.2
   · refine zyw (fun h D μ vs hr => rl_2 (fun v => ygt hp.1) hr) ?_
     exact yho ih _ k n s (rdL x) hp.2.1 hp.2.2.1 hp.2.2.2
theorem zrv {P : Program} {f : FuncId} {sz n : Nat} {get : Nat -> Nat -> AV} {r : AV} (h0 : n = 0 -> zac P f [.nils] r) (h1 : n = 0 -> zac P f [.emp] r) (h2 : 0 < n -> zac P f [.lst sz n get] r) : zac P f [.lst sz n get] r := by
 by_cases e : n = 0
 · subst e
   intro D w vs hD hx
   obtain ⟨v, hv⟩ : ∃ v, vs.toList = [v] := List.length_eq_one_iff.1 (by simpa using hx.1.symm)
   have : vs = #[v] := by rw [<- Array.toArray_toList (xs := vs), hv]
   subst this
   have hr := hx.2 0 _ _ rfl rfl
   have one : ∀ y, R w.heap D zap y v -> RL w.heap D zap [y] #[v] := fun y r => ⟨rfl, fun i x u hx hu => by
     match i with
     | 0 => cases hx; cases hu; exact r
     | i + 1 => simp at hx⟩
   cases hr with
   | lst0 _ _ a cap hn =>
     cases a with
     | none =>
       obtain rfl := hn rfl
       exact h0 rfl D w _ hD (one _ .nils)
     | some a => exact h1 rfl D w _ hD (one _ (.emp a cap))
   | lst _ _ _ b o cap vs' hD' hc hv' h1' hr' => exact h1 rfl D w _ hD (one _ (.emp _ cap))
 · exact h2 (by omega)
def zsp (n : Int) : CV := .mk 1 n [] []
def zsc (l : List CV) : CV := .mk 3 0 [] l
def yhx (L : za9) : zcw := (36, fun xs => match xs with | [.int .u64 n] => some (True, cvA L (L zsp n)) | _ => none)
theorem yd0 : zdd Tryz.prog (yhx std) := by
 intro xs p r h hp
 unfold yhx at h
 simp only at h
 split at h
 rotate_left
 · cases h
 rename_i n
 cases h
 refine zaa (T := tt) (S := noS) (lo := noA) (lb := noA) 5 (fn := Tryz.f36) rfl rfl (by kernel_rfl) (by kernel_rfl) rfl zae (zdx _) (by kernel_rfl) ?_
 (intro L P1 Q1 hL hP hQ; cbv; subst hL; simp only [L2, L3, std, syT]; subst hQ)
 show zfi (.agg [.int .i64 1, .int .u64 n, .str [], .lst 4 0 (yad (zsp n))]) _
 simp [zkv, zew, zgg, zid, zdp]
def ydp (l : List CV) : Prop := l.length <= 1000000
def zrl (L : za9) : zcw := (49, fun xs => match xs with
 | [x] => some (L okL x /\ L ydp (L rdL x), .lst 4 (L lenL (L rdL x)) (L zhk (L rdL x)))
 | _ => none)
theorem zvi : zdd Tryz.prog (zrl std) := by
 intro xs p r h hp
 unfold zrl at h
 simp only at h
 split at h
 rotate_left
 · cases h
 rename_i x
 cases h
 obtain ⟨ho, hz⟩ := hp
 refine yob ho ?_
 have hz : ydp (rdL x) := hz
 show zac _ _ [cvL std (rdL x)] (.lst 4 (lenL (rdL x)) (zhk (rdL x)))
 generalize rdL x = l at hz |-
 refine zrv (fun h => ?_) (fun h => ?_) (fun h => ?_)
 · refine zaa (T := tt) (S := noS) (lo := noA) (lb := noA) 5 (fn := Tryz.f49) rfl rfl (by kernel_rfl) (by kernel_rfl) rfl zae (zdx _) (by kernel_rfl) ?_
   intro L P' Q' hL hP hQ
   (cbv; try simp only [syT, true_and, and_true])
   (subst hL; subst hQ; simp only [L2, L3, std] at *; try simp only [syS, reduceCtorEq, Int.reduceToNat, Int.reduceAdd, Int.reduceSub] at *)
   exact h.symm
 · refine zaa (T := tt) (S := noS) (lo := noA) (lb := noA) 5 (fn := Tryz.f49) rfl rfl (by kernel_rfl) (by kernel_rfl) rfl zae (zdx _) (by kernel_rfl) ?_
   intro L P' Q' hL hP hQ
   (cbv; try simp only [syT, true_and, and_true])
   (subst hL; subst hQ; simp only [L2, L3, std] at *; try simp only [syS, reduceCtorEq, Int.reduceToNat, Int.reduceAdd, Int.reduceSub] at *)
   exact ⟨by omega, h.symm, fun i j hi => by omega⟩
 · refine zau (T := tt) (S := noS) (lo := fun _ => noA std) (lb := noA) 5 (fn := Tryz.f49) (xs := fun L => [cvL L l]) rfl rfl (by kernel_rfl) (by kernel_rfl) rfl zae (zdx _) (by kernel_rfl) ?_
   intro L P' Q' hL hP hQ
   (cbv; try simp only [syT, true_and, and_true])
   (subst hL; subst hQ; simp only [L2, L3, std] at *; try simp only [syS, reduceCtorEq, Int.reduceToNat, Int.reduceAdd, Int.reduceSub] at *)
   have h1 : lenL l <= 1000000 := hz
   exact ⟨zvk h, by omega, fun i j hi hj => by rw [yae _ _ hj, zbp _ _ _ hi]⟩
def zz0 (L : za9) : zcw := (34, fun xs => match xs with
 | [x] => some (L okL x /\ L ydp (L rdL x), cvA L (L zsc (L rdL x)))
 | _ => none)
theorem zz1 : zdd Tryz.prog (zz0 std) := by
 intro xs p r h hp
 unfold zz0 at h
 simp only at h
 split at h
 rotate_left
 · cases h
 rename_i x
 cases h
 obtain ⟨ho, hz⟩ := hp
 refine yob ho ?_
 have hz : ydp (rdL x) := hz
 show zac _ _ [cvL std (rdL x)] (cvA std (zsc (rdL x)))
 generalize rdL x = l at hz |-
 refine zau (T := tt) (S := fun L => zbf [zrl L]) (lo := fun _ => noA std) (lb := noA) 5 (fn := Tryz.f34) (xs := fun L => [cvL L l]) rfl rfl (by kernel_rfl) (by kernel_rfl) rfl zae (za7 ⟨zvi, trivial⟩) (by kernel_rfl) ?_
 intro L P' Q' hL hP hQ
 (cbv; try simp only [syT, true_and, and_true])
 (subst hL; subst hQ; simp only [L2, L3, std] at *; try simp only [syS, reduceCtorEq, Int.reduceToNat, Int.reduceAdd, Int.reduceSub] at *)
 rw [rdl]
 refine ⟨⟨okl l, hz⟩, ?_⟩
 show zfi (.agg [.int .i64 3, .int .u64 0, .str [], .lst 4 (lenL l) (zhk l)]) _
 simp [zkv, zew, zgg, zie, zdp]
def yfk (v : CV) : Int := if zhq v = true then (if zfo v > 6 then 8 else if (zds v).length > 8192 then 5 else 0) else 10
def yhs (v : CV) : List UInt8 := if yfk v = 0 then zds v else []
def yaf (N : Nat) (L : za9) : zcw := (38, fun xs => match xs with
 | [.agg [.int .i64 k, .int .u64 n, .str s, x]] => some (L okL x /\ L2 L zo8 N (mkV L k n s x) /\ L zwi (mkV L k n s x), .tup [.str (L yhs (mkV L k n s x)), .int .i64 (L yfk (mkV L k n s x))])
 | _ => none)
theorem zvg (N : Nat) : zdd Tryz.prog (yaf N std) := by
 intro xs p r h hp
 unfold yaf at h
 simp only at h
 split at h
 rotate_left
 · cases h
 rename_i k n s x
 cases h
 obtain ⟨ho, hz, hw⟩ := hp
 refine yoa ho ?_
 rw [show mkV std k n s x = .mk k n s (rdL x) from rfl] at hz hw |-
 generalize rdL x = l at hz hw |-
 have hz : zo8 N (.mk k n s l) := hz
 have hw : zwi (.mk k n s l) := hw
 refine zau (T := tt) (S := fun L => zb0 [zme N L, zpu N L] [zoj N L, yqj L, yqi L]) (lo := fun _ => noA std) (lb := noA) 5 (fn := Tryz.f38) (xs := fun L => [.agg [.int .i64 k, .int .u64 n, .str s, cvL L l]]) rfl rfl (by kernel_rfl) (by kernel_rfl) rfl zae
   (za8 ⟨yba N, yab N, trivial⟩ ⟨yag N, yk8, yk5, trivial⟩) (by kernel_rfl) ?_
 intro L P' Q' hL hP hQ
 have hB : ∀ b : List UInt8, L (L bytesOf (L lenN b)) (fun i => (AV.int .u8 (L2 L zat b i)).toI) = b := by subst hL; exact zez
 (cbv; try simp only [syT, true_and, and_true])
 simp only [hB]
 (subst hL; subst hQ; simp only [L2, L3, std] at *; try simp only [syS, reduceCtorEq, Int.reduceToNat, Int.reduceAdd, Int.reduceSub] at *)
 simp only [rdl, mkl]
 refine ⟨⟨okl l, hz⟩, fun h1 => ?_, fun h1 => ⟨⟨okl l, hz⟩, fun h2 => ?_, fun h2 => ⟨⟨okl l, hz, hw⟩, fun h3 => ?_, fun h3 => ⟨⟨?_, hw.2⟩, ?_⟩⟩⟩⟩
 · simp [yhs, yfk, h1]
 · simp [yhs, yfk, h1, h2]
 · have h4 : ¬ 6 < zfo (.mk k n s l) := by omega
   have h5 : 8192 < (zds (.mk k n s l)).length := by omega
   simp [yhs, yfk, h1, h4, h5]
 · rw [zax]; simp [zl4]
 · have h4 : ¬ 6 < zfo (.mk k n s l) := by omega
   have h5 : ¬ 8192 < (zds (.mk k n s l)).length := by omega
   simp [yhs, yfk, h1, h4, h5]
theorem one1 (v : CV) : rdL (.lst 4 1 fun i j => zc0 .dead [.int .i64 v.kd, .int .u64 v.nn, .str v.tx, .lst 4 (ybu v) (yad v)] (i * 4 + j)) = [v] := by
 show [CV.mk v.kd v.nn v.tx (rdL (.lst 4 (ybu v) (yad v)))] = [v]
 rw [zfc]
theorem yhv (v : CV) : okL (.lst 4 1 fun i j => zc0 .dead [.int .i64 v.kd, .int .u64 v.nn, .str v.tx, .lst 4 (ybu v) (yad v)] (i * 4 + j)) := by
 refine ⟨rfl, fun i hi => ?_⟩
 have : i = 0 := by omega
 subst this
 exact ⟨⟨_, rfl⟩, ⟨_, rfl⟩, ⟨_, rfl⟩, (zmt v).2⟩
theorem yld : zbb 1 = [1] := by rw [zbb, show (1 : Int).toNat = 1 from rfl, zbt (by decide)]; rfl
theorem ylc : zbb 5 = [5] := by rw [zbb, show (5 : Int).toNat = 5 from rfl, zbt (by decide)]; rfl
theorem zrc : zds (zsc [zsp 5]) = [3, 1, 1, 5] := by
 rw [zsc, zsp, zax, if_neg (by decide), if_neg (by decide), zd9, zax, if_pos rfl, zd9, ylc]
 show _ ++ (zbb 1 ++ _) = _
 rw [yld]; rfl
theorem yjh : zhq (zsc [zsp 5]) = true := by rw [zsc, zsp, zhq, zf0, zhq, zf0]; rfl
theorem yjg : zfo (zsc [zsp 5]) = 1 := by rw [zsc, zsp, zfo, zbe, zfo, zbe]; rfl
theorem yje : sizeC (zsc [zsp 5]) = 2 := by rw [zsc, zsp, ze9, zbs, zem, ze9, zem]
theorem ya6 : yfk (zsc [zsp 5]) = 0 := by rw [yfk, yjh, yjg, zrc]; rfl
theorem yjf : yhs (zsc [zsp 5]) = [3, 1, 1, 5] := by rw [yhs, ya6, zrc]; rfl
theorem yq1 : zwi (zsc [zsp 5]) := by
 refine ⟨?_, by rw [zrc]; decide⟩
 simp only [zsc, zsp, wfV, ygq, zeg]
 decide
theorem zvp : zac Tryz.prog 41 [] (.bool true) := by
 refine zaa (T := tt) (S := fun L => zbf [yhx L, zz0 L, yaf 100 L, tru 56]) (lo := noA) (lb := noA) 5 (fn := Tryz.f41) rfl rfl (by kernel_rfl) (by kernel_rfl) rfl zae (za7 ⟨yd0, zz1, zvg 100, zby zij, trivial⟩) (by kernel_rfl) ?_
 intro L P' Q' hL hP hQ
 (cbv; try simp only [syT, true_and, and_true])
 (subst hL; subst hQ; simp only [L2, L3, std] at *; try simp only [syS, reduceCtorEq, Int.reduceToNat, Int.reduceAdd, Int.reduceSub] at *)
 simp only [one1, zfc, zca, ya6, yjf]
 exact ⟨⟨yhv _, by show (1 : Nat) <= 1000000; omega⟩, ⟨(zmt _).2, ⟨by rw [yje]; omega, by omega⟩, yq1⟩, fun _ => trivial, trivial⟩
theorem zvw : zac Tryz.prog 22 [] (.bool true) := by
 refine zaa (T := tt) (S := fun L => zbf [tru 41]) (lo := noA) (lb := noA) 5 (fn := Tryz.f22) rfl rfl (by kernel_rfl) (by kernel_rfl) rfl zae (za7 ⟨zby zvp, trivial⟩) (by kernel_rfl) ?_
 (intro L P1 Q1 hL hP hQ; cbv; subst hL; simp only [L2, L3, std, syT]; subst hQ)
 (simp only [syS, reduceCtorEq, Int.reduceToNat, Int.reduceAdd, Int.reduceSub])
def pr2 (a b : Int) : Pr := ⟨[a, b, 0, 0, 0, 0, 0, 0, 0, 0, 0, 0, 0, 0, 0, 0], rfl⟩
theorem zk4 {a b : Int} (ha : 0 <= a /\ a < 256) (hb : 0 <= b /\ b < 256) : zgx (pr2 a b) := by
 intro x hx
 have hx : x ∈ [a, b, 0, 0, 0, 0, 0, 0, 0, 0, 0, 0, 0, 0, 0, 0] := hx
 simp only [List.mem_cons, List.not_mem_nil, or_false] at hx
 omega
theorem zqm {a b c d : Int} (h : pr2 a b = pr2 c d) : a = c /\ b = d := by
 have h : [a, b, 0, 0, 0, 0, 0, 0, 0, 0, 0, 0, 0, 0, 0, 0] = [c, d, 0, 0, 0, 0, 0, 0, 0, 0, 0, 0, 0, 0, 0, 0] := congrArg Subtype.val h
 simp at h
 exact h
theorem yfi (a b : Int) : zd2 (.agg [.int .u8 a, .int .u8 b, .int .u8 0, .int .u8 0, .int .u8 0, .int .u8 0, .int .u8 0, .int .u8 0, .int .u8 0, .int .u8 0, .int .u8 0, .int .u8 0, .int .u8 0, .int .u8 0, .int .u8 0, .int .u8 0]) /\ zar (.agg [.int .u8 a, .int .u8 b, .int .u8 0, .int .u8 0, .int .u8 0, .int .u8 0, .int .u8 0, .int .u8 0, .int .u8 0, .int .u8 0, .int .u8 0, .int .u8 0, .int .u8 0, .int .u8 0, .int .u8 0, .int .u8 0]) = pr2 a b := zc3 (pr2 a b)
theorem zta : zde [] := ⟨List.Pairwise.nil, fun e h => by cases h⟩
theorem zvm : zac Tryz.prog 7 [] (.bool true) := by
 refine zaa (T := tt) (S := fun L => zbf [yds L, zz2 L, tru 22, tru 23]) (lo := noA) (lb := noA) 5 (fn := Tryz.f7) rfl rfl (by kernel_rfl) (by kernel_rfl) rfl zae (za7 ⟨zt9, zn8, zby zvw, zby zvu, trivial⟩) (by kernel_rfl) ?_
 intro L P' Q' hL hP hQ
 have hE : ∀ (y : Pr) (d : Int) (h : Bool), L zc4 (.agg [.int .u8 (L (L za0 y) 0), .int .u8 (L (L za0 y) 1), .int .u8 (L (L za0 y) 2), .int .u8 (L (L za0 y) 3), .int .u8 (L (L za0 y) 4), .int .u8 (L (L za0 y) 5), .int .u8 (L (L za0 y) 6), .int .u8 (L (L za0 y) 7), .int .u8 (L (L za0 y) 8), .int .u8 (L (L za0 y) 9), .int .u8 (L (L za0 y) 10), .int .u8 (L (L za0 y) 11), .int .u8 (L (L za0 y) 12), .int .u8 (L (L za0 y) 13), .int .u8 (L (L za0 y) 14), .int .u8 (L (L za0 y) 15), .int .i64 d, .bool h]) = L (L (L Le.mk y) d) h := by subst hL; exact fun y d h => (zc9 ⟨y, d, h⟩).2
 have hEo : ∀ (y : Pr) (d : Int) (h : Bool), (L zei (.agg [.int .u8 (L (L za0 y) 0), .int .u8 (L (L za0 y) 1), .int .u8 (L (L za0 y) 2), .int .u8 (L (L za0 y) 3), .int .u8 (L (L za0 y) 4), .int .u8 (L (L za0 y) 5), .int .u8 (L (L za0 y) 6), .int .u8 (L (L za0 y) 7), .int .u8 (L (L za0 y) 8), .int .u8 (L (L za0 y) 9), .int .u8 (L (L za0 y) 10), .int .u8 (L (L za0 y) 11), .int .u8 (L (L za0 y) 12), .int .u8 (L (L za0 y) 13), .int .u8 (L (L za0 y) 14), .int .u8 (L (L za0 y) 15), .int .i64 d, .bool h])) = True := by subst hL; exact fun y d h => eq_true (zc9 ⟨y, d, h⟩).1
 have hF : ∀ (y : Pr) (d : Int) (h : Bool), L zc4 (.agg [.int .u8 (L (L za1 [L (L za0 y) 0, L (L za0 y) 1, L (L za0 y) 2, L (L za0 y) 3, L (L za0 y) 4, L (L za0 y) 5, L (L za0 y) 6, L (L za0 y) 7, L (L za0 y) 8, L (L za0 y) 9, L (L za0 y) 10, L (L za0 y) 11, L (L za0 y) 12, L (L za0 y) 13, L (L za0 y) 14, L (L za0 y) 15]) 0), .int .u8 (L (L za1 [L (L za0 y) 0, L (L za0 y) 1, L (L za0 y) 2, L (L za0 y) 3, L (L za0 y) 4, L (L za0 y) 5, L (L za0 y) 6, L (L za0 y) 7, L (L za0 y) 8, L (L za0 y) 9, L (L za0 y) 10, L (L za0 y) 11, L (L za0 y) 12, L (L za0 y) 13, L (L za0 y) 14, L (L za0 y) 15]) 1), .int .u8 (L (L za1 [L (L za0 y) 0, L (L za0 y) 1, L (L za0 y) 2, L (L za0 y) 3, L (L za0 y) 4, L (L za0 y) 5, L (L za0 y) 6, L (L za0 y) 7, L (L za0 y) 8, L (L za0 y) 9, L (L za0 y) 10, L (L za0 y) 11, L (L za0 y) 12, L (L za0 y) 13, L (L za0 y) 14, L (L za0 y) 15]) 2), .int .u8 (L (L za1 [L (L za0 y) 0, L (L za0 y) 1, L (L za0 y) 2, L (L za0 y) 3, L (L za0 y) 4, L (L za0 y) 5, L (L za0 y) 6, L (L za0 y) 7, L (L za0 y) 8, L (L za0 y) 9, L (L za0 y) 10, L (L za0 y) 11, L (L za0 y) 12, L (L za0 y) 13, L (L za0 y) 14, L (L za0 y) 15]) 3), .int .u8 (L (L za1 [L (L za0 y) 0, L (L za0 y) 1, L (L za0 y) 2, L (L za0 y) 3, L (L za0 y) 4, L (L za0 y) 5, L (L za0 y) 6, L (L za0 y) 7, L (L za0 y) 8, L (L za0 y) 9, L (L za0 y) 10, L (L za0 y) 11, L (L za0 y) 12, L (L za0 y) 13, L (L za0 y) 14, L (L za0 y) 15]) 4), .int .u8 (L (L za1 [L (L za0 y) 0, L (L za0 y) 1, L (L za0 y) 2, L (L za0 y) 3, L (L za0 y) 4, L (L za0 y) 5, L (L za0 y) 6, L (L za0 y) 7, L (L za0 y) 8, L (L za0 y) 9, L (L za0 y) 10, L (L za0 y) 11, L (L za0 y) 12, L (L za0 y) 13, L (L za0 y) 14, L (L za0 y) 15]) 5), .int .u8 (L (L za1 [L (L za0 y) 0, L (L za0 y) 1, L (L za0 y) 2, L (L za0 y) 3, L (L za0 y) 4, L (L za0 y) 5, L (L za0 y) 6, L (L za0 y) 7, L (L za0 y) 8, L (L za0 y) 9, L (L za0 y) 10, L (L za0 y) 11, L (L za0 y) 12, L (L za0 y) 13, L (L za0 y) 14, L (L za0 y) 15]) 6), .int .u8 (L (L za1 [L (L za0 y) 0, L (L za0 y) 1, L (L za0 y) 2, L (L za0 y) 3, L (L za0 y) 4, L (L za0 y) 5, L (L za0 y) 6, L (L za0 y) 7, L (L za0 y) 8, L (L za0 y) 9, L (L za0 y) 10, L (L za0 y) 11, L (L za0 y) 12, L (L za0 y) 13, L (L za0 y) 14, L (L za0 y) 15]) 7), .int .u8 (L (L za1 [L (L za0 y) 0, L (L za0 y) 1, L (L za0 y) 2, L (L za0 y) 3, L (L za0 y) 4, L (L za0 y) 5, L (L za0 y) 6, L (L za0 y) 7, L (L za0 y) 8, L (L za0 y) 9, L (L za0 y) 10, L (L za0 y) 11, L (L za0 y) 12, L (L za0 y) 13, L (L za0 y) 14, L (L za0 y) 15]) 8), .int .u8 (L (L za1 [L (L za0 y) 0, L (L za0 y) 1, L (L za0 y) 2, L (L za0 y) 3, L (L za0 y) 4, L (L za0 y) 5, L (L za0 y) 6, L (L za0 y) 7, L (L za0 y) 8, L (L za0 y) 9, L (L za0 y) 10, L (L za0 y) 11, L (L za0 y) 12, L (L za0 y) 13, L (L za0 y) 14, L (L za0 y) 15]) 9), .int .u8 (L (L za1 [L (L za0 y) 0, L (L za0 y) 1, L (L za0 y) 2, L (L za0 y) 3, L (L za0 y) 4, L (L za0 y) 5, L (L za0 y) 6, L (L za0 y) 7, L (L za0 y) 8, L (L za0 y) 9, L (L za0 y) 10, L (L za0 y) 11, L (L za0 y) 12, L (L za0 y) 13, L (L za0 y) 14, L (L za0 y) 15]) 10), .int .u8 (L (L za1 [L (L za0 y) 0, L (L za0 y) 1, L (L za0 y) 2, L (L za0 y) 3, L (L za0 y) 4, L (L za0 y) 5, L (L za0 y) 6, L (L za0 y) 7, L (L za0 y) 8, L (L za0 y) 9, L (L za0 y) 10, L (L za0 y) 11, L (L za0 y) 12, L (L za0 y) 13, L (L za0 y) 14, L (L za0 y) 15]) 11), .int .u8 (L (L za1 [L (L za0 y) 0, L (L za0 y) 1, L (L za0 y) 2, L (L za0 y) 3, L (L za0 y) 4, L (L za0 y) 5, L (L za0 y) 6, L (L za0 y) 7, L (L za0 y) 8, L (L za0 y) 9, L (L za0 y) 10, L (L za0 y) 11, L (L za0 y) 12, L (L za0 y) 13, L (L za0 y) 14, L (L za0 y) 15]) 12), .int .u8 (L (L za1 [L (L za0 y) 0, L (L za0 y) 1, L (L za0 y) 2, L (L za0 y) 3, L (L za0 y) 4, L (L za0 y) 5, L (L za0 y) 6, L (L za0 y) 7, L (L za0 y) 8, L (L za0 y) 9, L (L za0 y) 10, L (L za0 y) 11, L (L za0 y) 12, L (L za0 y) 13, L (L za0 y) 14, L (L za0 y) 15]) 13), .int .u8 (L (L za1 [L (L za0 y) 0, L (L za0 y) 1, L (L za0 y) 2, L (L za0 y) 3, L (L za0 y) 4, L (L za0 y) 5, L (L za0 y) 6, L (L za0 y) 7, L (L za0 y) 8, L (L za0 y) 9, L (L za0 y) 10, L (L za0 y) 11, L (L za0 y) 12, L (L za0 y) 13, L (L za0 y) 14, L (L za0 y) 15]) 14), .int .u8 (L (L za1 [L (L za0 y) 0, L (L za0 y) 1, L (L za0 y) 2, L (L za0 y) 3, L (L za0 y) 4, L (L za0 y) 5, L (L za0 y) 6, L (L za0 y) 7, L (L za0 y) 8, L (L za0 y) 9, L (L za0 y) 10, L (L za0 y) 11, L (L za0 y) 12, L (L za0 y) 13, L (L za0 y) 14, L (L za0 y) 15]) 15), .int .i64 d, .bool h]) = L (L (L Le.mk y) d) h := by subst hL; exact fun y d h => (zc9 ⟨y, d, h⟩).2
 have hFo : ∀ (y : Pr) (d : Int) (h : Bool), (L zei (.agg [.int .u8 (L (L za1 [L (L za0 y) 0, L (L za0 y) 1, L (L za0 y) 2, L (L za0 y) 3, L (L za0 y) 4, L (L za0 y) 5, L (L za0 y) 6, L (L za0 y) 7, L (L za0 y) 8, L (L za0 y) 9, L (L za0 y) 10, L (L za0 y) 11, L (L za0 y) 12, L (L za0 y) 13, L (L za0 y) 14, L (L za0 y) 15]) 0), .int .u8 (L (L za1 [L (L za0 y) 0, L (L za0 y) 1, L (L za0 y) 2, L (L za0 y) 3, L (L za0 y) 4, L (L za0 y) 5, L (L za0 y) 6, L (L za0 y) 7, L (L za0 y) 8, L (L za0 y) 9, L (L za0 y) 10, L (L za0 y) 11, L (L za0 y) 12, L (L za0 y) 13, L (L za0 y) 14, L (L za0 y) 15]) 1), .int .u8 (L (L za1 [L (L za0 y) 0, L (L za0 y) 1, L (L za0 y) 2, L (L za0 y) 3, L (L za0 y) 4, L (L za0 y) 5, L (L za0 y) 6, L (L za0 y) 7, L (L za0 y) 8, L (L za0 y) 9, L (L za0 y) 10, L (L za0 y) 11, L (L za0 y) 12, L (L za0 y) 13, L (L za0 y) 14, L (L za0 y) 15]) 2), .int .u8 (L (L za1 [L (L za0 y) 0, L (L za0 y) 1, L (L za0 y) 2, L (L za0 y) 3, L (L za0 y) 4, L (L za0 y) 5, L (L za0 y) 6, L (L za0 y) 7, L (L za0 y) 8, L (L za0 y) 9, L (L za0 y) 10, L (L za0 y) 11, L (L za0 y) 12, L (L za0 y) 13, L (L za0 y) 14, L (L za0 y) 15]) 3), .int .u8 (L (L za1 [L (L za0 y) 0, L (L za0 y) 1, L (L za0 y) 2, L (L za0 y) 3, L (L za0 y) 4, L (L za0 y) 5, L (L za0 y) 6, L (L za0 y) 7, L (L za0 y) 8, L (L za0 y) 9, L (L za0 y) 10, L (L za0 y) 11, L (L za0 y) 12, L (L za0 y) 13, L (L za0 y) 14, L (L za0 y) 15]) 4), .int .u8 (L (L za1 [L (L za0 y) 0, L (L za0 y) 1, L (L za0 y) 2, L (L za0 y) 3, L (L za0 y) 4, L (L za0 y) 5, L (L za0 y) 6, L (L za0 y) 7, L (L za0 y) 8, L (L za0 y) 9, L (L za0 y) 10, L (L za0 y) 11, L (L za0 y) 12, L (L za0 y) 13, L (L za0 y) 14, L (L za0 y) 15]) 5), .int .u8 (L (L za1 [L (L za0 y) 0, L (L za0 y) 1, L (L za0 y) 2, L (L za0 y) 3, L (L za0 y) 4, L (L za0 y) 5, L (L za0 y) 6, L (L za0 y) 7, L (L za0 y) 8, L (L za0 y) 9, L (L za0 y) 10, L (L za0 y) 11, L (L za0 y) 12, L (L za0 y) 13, L (L za0 y) 14, L (L za0 y) 15]) 6), .int .u8 (L (L za1 [L (L za0 y) 0, L (L za0 y) 1, L (L za0 y) 2, L (L za0 y) 3, L (L za0 y) 4, L (L za0 y) 5, L (L za0 y) 6, L (L za0 y) 7, L (L za0 y) 8, L (L za0 y) 9, L (L za0 y) 10, L (L za0 y) 11, L (L za0 y) 12, L (L za0 y) 13, L (L za0 y) 14, L (L za0 y) 15]) 7), .int .u8 (L (L za1 [L (L za0 y) 0, L (L za0 y) 1, L (L za0 y) 2, L (L za0 y) 3, L (L za0 y) 4, L (L za0 y) 5, L (L za0 y) 6, L (L za0 y) 7, L (L za0 y) 8, L (L za0 y) 9, L (L za0 y) 10, L (L za0 y) 11, L (L za0 y) 12, L (L za0 y) 13, L (L za0 y) 14, L (L za0 y) 15]) 8), .int .u8 (L (L za1 [L (L za0 y) 0, L (L za0 y) 1, L (L za0 y) 2, L (L za0 y) 3, L (L za0 y) 4, L (L za0 y) 5, L (L za0 y) 6, L (L za0 y) 7, L (L za0 y) 8, L (L za0 y) 9, L (L za0 y) 10, L (L za0 y) 11, L (L za0 y) 12, L (L za0 y) 13, L (L za0 y) 14, L (L za0 y) 15]) 9), .int .u8 (L (L za1 [L (L za0 y) 0, L (L za0 y) 1, L (L za0 y) 2, L (L za0 y) 3, L (L za0 y) 4, L (L za0 y) 5, L (L za0 y) 6, L (L za0 y) 7, L (L za0 y) 8, L (L za0 y) 9, L (L za0 y) 10, L (L za0 y) 11, L (L za0 y) 12, L (L za0 y) 13, L (L za0 y) 14, L (L za0 y) 15]) 10), .int .u8 (L (L za1 [L (L za0 y) 0, L (L za0 y) 1, L (L za0 y) 2, L (L za0 y) 3, L (L za0 y) 4, L (L za0 y) 5, L (L za0 y) 6, L (L za0 y) 7, L (L za0 y) 8, L (L za0 y) 9, L (L za0 y) 10, L (L za0 y) 11, L (L za0 y) 12, L (L za0 y) 13, L (L za0 y) 14, L (L za0 y) 15]) 11), .int .u8 (L (L za1 [L (L za0 y) 0, L (L za0 y) 1, L (L za0 y) 2, L (L za0 y) 3, L (L za0 y) 4, L (L za0 y) 5, L (L za0 y) 6, L (L za0 y) 7, L (L za0 y) 8, L (L za0 y) 9, L (L za0 y) 10, L (L za0 y) 11, L (L za0 y) 12, L (L za0 y) 13, L (L za0 y) 14, L (L za0 y) 15]) 12), .int .u8 (L (L za1 [L (L za0 y) 0, L (L za0 y) 1, L (L za0 y) 2, L (L za0 y) 3, L (L za0 y) 4, L (L za0 y) 5, L (L za0 y) 6, L (L za0 y) 7, L (L za0 y) 8, L (L za0 y) 9, L (L za0 y) 10, L (L za0 y) 11, L (L za0 y) 12, L (L za0 y) 13, L (L za0 y) 14, L (L za0 y) 15]) 13), .int .u8 (L (L za1 [L (L za0 y) 0, L (L za0 y) 1, L (L za0 y) 2, L (L za0 y) 3, L (L za0 y) 4, L (L za0 y) 5, L (L za0 y) 6, L (L za0 y) 7, L (L za0 y) 8, L (L za0 y) 9, L (L za0 y) 10, L (L za0 y) 11, L (L za0 y) 12, L (L za0 y) 13, L (L za0 y) 14, L (L za0 y) 15]) 14), .int .u8 (L (L za1 [L (L za0 y) 0, L (L za0 y) 1, L (L za0 y) 2, L (L za0 y) 3, L (L za0 y) 4, L (L za0 y) 5, L (L za0 y) 6, L (L za0 y) 7, L (L za0 y) 8, L (L za0 y) 9, L (L za0 y) 10, L (L za0 y) 11, L (L za0 y) 12, L (L za0 y) 13, L (L za0 y) 14, L (L za0 y) 15]) 15), .int .i64 d, .bool h])) = True := by subst hL; exact fun y d h => eq_true (zc9 ⟨y, d, h⟩).1
 have hEta : ∀ y : Le, L (L (L Le.mk (L Le.p y)) (L Le.d y)) (L Le.h y) = y := by subst hL; exact fun y => rfl
 have hMp : ∀ (y : Pr) (d : Int) (h : Bool), L Le.p (L (L (L Le.mk y) d) h) = y := by subst hL; exact fun y d h => rfl
 have hQ0 : ∀ y : Pr, L zar (.agg [.int .u8 (L (L za0 y) 0), .int .u8 (L (L za0 y) 1), .int .u8 (L (L za0 y) 2), .int .u8 (L (L za0 y) 3), .int .u8 (L (L za0 y) 4), .int .u8 (L (L za0 y) 5), .int .u8 (L (L za0 y) 6), .int .u8 (L (L za0 y) 7), .int .u8 (L (L za0 y) 8), .int .u8 (L (L za0 y) 9), .int .u8 (L (L za0 y) 10), .int .u8 (L (L za0 y) 11), .int .u8 (L (L za0 y) 12), .int .u8 (L (L za0 y) 13), .int .u8 (L (L za0 y) 14), .int .u8 (L (L za0 y) 15)]) = y := by subst hL; exact fun y => (zc3 y).2
 have hQo : ∀ y : Pr, (L zd2 (.agg [.int .u8 (L (L za0 y) 0), .int .u8 (L (L za0 y) 1), .int .u8 (L (L za0 y) 2), .int .u8 (L (L za0 y) 3), .int .u8 (L (L za0 y) 4), .int .u8 (L (L za0 y) 5), .int .u8 (L (L za0 y) 6), .int .u8 (L (L za0 y) 7), .int .u8 (L (L za0 y) 8), .int .u8 (L (L za0 y) 9), .int .u8 (L (L za0 y) 10), .int .u8 (L (L za0 y) 11), .int .u8 (L (L za0 y) 12), .int .u8 (L (L za0 y) 13), .int .u8 (L (L za0 y) 14), .int .u8 (L (L za0 y) 15)])) = True := by subst hL; exact fun y => eq_true (zc3 y).1
 have hQ1 : ∀ y : Pr, L zar (.agg [.int .u8 (L (L za1 [L (L za0 y) 0, L (L za0 y) 1, L (L za0 y) 2, L (L za0 y) 3, L (L za0 y) 4, L (L za0 y) 5, L (L za0 y) 6, L (L za0 y) 7, L (L za0 y) 8, L (L za0 y) 9, L (L za0 y) 10, L (L za0 y) 11, L (L za0 y) 12, L (L za0 y) 13, L (L za0 y) 14, L (L za0 y) 15]) 0), .int .u8 (L (L za1 [L (L za0 y) 0, L (L za0 y) 1, L (L za0 y) 2, L (L za0 y) 3, L (L za0 y) 4, L (L za0 y) 5, L (L za0 y) 6, L (L za0 y) 7, L (L za0 y) 8, L (L za0 y) 9, L (L za0 y) 10, L (L za0 y) 11, L (L za0 y) 12, L (L za0 y) 13, L (L za0 y) 14, L (L za0 y) 15]) 1), .int .u8 (L (L za1 [L (L za0 y) 0, L (L za0 y) 1, L (L za0 y) 2, L (L za0 y) 3, L (L za0 y) 4, L (L za0 y) 5, L (L za0 y) 6, L (L za0 y) 7, L (L za0 y) 8, L (L za0 y) 9, L (L za0 y) 10, L (L za0 y) 11, L (L za0 y) 12, L (L za0 y) 13, L (L za0 y) 14, L (L za0 y) 15]) 2), .int .u8 (L (L za1 [L (L za0 y) 0, L (L za0 y) 1, L (L za0 y) 2, L (L za0 y) 3, L (L za0 y) 4, L (L za0 y) 5, L (L za0 y) 6, L (L za0 y) 7, L (L za0 y) 8, L (L za0 y) 9, L (L za0 y) 10, L (L za0 y) 11, L (L za0 y) 12, L (L za0 y) 13, L (L za0 y) 14, L (L za0 y) 15]) 3), .int .u8 (L (L za1 [L (L za0 y) 0, L (L za0 y) 1, L (L za0 y) 2, L (L za0 y) 3, L (L za0 y) 4, L (L za0 y) 5, L (L za0 y) 6, L (L za0 y) 7, L (L za0 y) 8, L (L za0 y) 9, L (L za0 y) 10, L (L za0 y) 11, L (L za0 y) 12, L (L za0 y) 13, L (L za0 y) 14, L (L za0 y) 15]) 4), .int .u8 (L (L za1 [L (L za0 y) 0, L (L za0 y) 1, L (L za0 y) 2, L (L za0 y) 3, L (L za0 y) 4, L (L za0 y) 5, L (L za0 y) 6, L (L za0 y) 7, L (L za0 y) 8, L (L za0 y) 9, L (L za0 y) 10, L (L za0 y) 11, L (L za0 y) 12, L (L za0 y) 13, L (L za0 y) 14, L (L za0 y) 15]) 5), .int .u8 (L (L za1 [L (L za0 y) 0, L (L za0 y) 1, L (L za0 y) 2, L (L za0 y) 3, L (L za0 y) 4, L (L za0 y) 5, L (L za0 y) 6, L (L za0 y) 7, L (L za0 y) 8, L (L za0 y) 9, L (L za0 y) 10, L (L za0 y) 11, L (L za0 y) 12, L (L za0 y) 13, L (L za0 y) 14, L (L za0 y) 15]) 6), .int .u8 (L (L za1 [L (L za0 y) 0, L (L za0 y) 1, L (L za0 y) 2, L (L za0 y) 3, L (L za0 y) 4, L (L za0 y) 5, L (L za0 y) 6, L (L za0 y) 7, L (L za0 y) 8, L (L za0 y) 9, L (L za0 y) 10, L (L za0 y) 11, L (L za0 y) 12, L (L za0 y) 13, L (L za0 y) 14, L (L za0 y) 15]) 7), .int .u8 (L (L za1 [L (L za0 y) 0, L (L za0 y) 1, L (L za0 y) 2, L (L za0 y) 3, L (L za0 y) 4, L (L za0 y) 5, L (L za0 y) 6, L (L za0 y) 7, L (L za0 y) 8, L (L za0 y) 9, L (L za0 y) 10, L (L za0 y) 11, L (L za0 y) 12, L (L za0 y) 13, L (L za0 y) 14, L (L za0 y) 15]) 8), .int .u8 (L (L za1 [L (L za0 y) 0, L (L za0 y) 1, L (L za0 y) 2, L (L za0 y) 3, L (L za0 y) 4, L (L za0 y) 5, L (L za0 y) 6, L (L za0 y) 7, L (L za0 y) 8, L (L za0 y) 9, L (L za0 y) 10, L (L za0 y) 11, L (L za0 y) 12, L (L za0 y) 13, L (L za0 y) 14, L (L za0 y) 15]) 9), .int .u8 (L (L za1 [L (L za0 y) 0, L (L za0 y) 1, L (L za0 y) 2, L (L za0 y) 3, L (L za0 y) 4, L (L za0 y) 5, L (L za0 y) 6, L (L za0 y) 7, L (L za0 y) 8, L (L za0 y) 9, L (L za0 y) 10, L (L za0 y) 11, L (L za0 y) 12, L (L za0 y) 13, L (L za0 y) 14, L (L za0 y) 15]) 10), .int .u8 (L (L za1 [L (L za0 y) 0, L (L za0 y) 1, L (L za0 y) 2, L (L za0 y) 3, L (L za0 y) 4, L (L za0 y) 5, L (L za0 y) 6, L (L za0 y) 7, L (L za0 y) 8, L (L za0 y) 9, L (L za0 y) 10, L (L za0 y) 11, L (L za0 y) 12, L (L za0 y) 13, L (L za0 y) 14, L (L za0 y) 15]) 11), .int .u8 (L (L za1 [L (L za0 y) 0, L (L za0 y) 1, L (L za0 y) 2, L (L za0 y) 3, L (L za0 y) 4, L (L za0 y) 5, L (L za0 y) 6, L (L za0 y) 7, L (L za0 y) 8, L (L za0 y) 9, L (L za0 y) 10, L (L za0 y) 11, L (L za0 y) 12, L (L za0 y) 13, L (L za0 y) 14, L (L za0 y) 15]) 12), .int .u8 (L (L za1 [L (L za0 y) 0, L (L za0 y) 1, L (L za0 y) 2, L (L za0 y) 3, L (L za0 y) 4, L (L za0 y) 5, L (L za0 y) 6, L (L za0 y) 7, L (L za0 y) 8, L (L za0 y) 9, L (L za0 y) 10, L (L za0 y) 11, L (L za0 y) 12, L (L za0 y) 13, L (L za0 y) 14, L (L za0 y) 15]) 13), .int .u8 (L (L za1 [L (L za0 y) 0, L (L za0 y) 1, L (L za0 y) 2, L (L za0 y) 3, L (L za0 y) 4, L (L za0 y) 5, L (L za0 y) 6, L (L za0 y) 7, L (L za0 y) 8, L (L za0 y) 9, L (L za0 y) 10, L (L za0 y) 11, L (L za0 y) 12, L (L za0 y) 13, L (L za0 y) 14, L (L za0 y) 15]) 14), .int .u8 (L (L za1 [L (L za0 y) 0, L (L za0 y) 1, L (L za0 y) 2, L (L za0 y) 3, L (L za0 y) 4, L (L za0 y) 5, L (L za0 y) 6, L (L za0 y) 7, L (L za0 y) 8, L (L za0 y) 9, L (L za0 y) 10, L (L za0 y) 11, L (L za0 y) 12, L (L za0 y) 13, L (L za0 y) 14, L (L za0 y) 15]) 15)]) = y := by subst hL; exact fun y => (zc3 y).2
 have hQ1o : ∀ y : Pr, (L zd2 (.agg [.int .u8 (L (L za1 [L (L za0 y) 0, L (L za0 y) 1, L (L za0 y) 2, L (L za0 y) 3, L (L za0 y) 4, L (L za0 y) 5, L (L za0 y) 6, L (L za0 y) 7, L (L za0 y) 8, L (L za0 y) 9, L (L za0 y) 10, L (L za0 y) 11, L (L za0 y) 12, L (L za0 y) 13, L (L za0 y) 14, L (L za0 y) 15]) 0), .int .u8 (L (L za1 [L (L za0 y) 0, L (L za0 y) 1, L (L za0 y) 2, L (L za0 y) 3, L (L za0 y) 4, L (L za0 y) 5, L (L za0 y) 6, L (L za0 y) 7, L (L za0 y) 8, L (L za0 y) 9, L (L za0 y) 10, L (L za0 y) 11, L (L za0 y) 12, L (L za0 y) 13, L (L za0 y) 14, L (L za0 y) 15]) 1), .int .u8 (L (L za1 [L (L za0 y) 0, L (L za0 y) 1, L (L za0 y) 2, L (L za0 y) 3, L (L za0 y) 4, L (L za0 y) 5, L (L za0 y) 6, L (L za0 y) 7, L (L za0 y) 8, L (L za0 y) 9, L (L za0 y) 10, L (L za0 y) 11, L (L za0 y) 12, L (L za0 y) 13, L (L za0 y) 14, L (L za0 y) 15]) 2), .int .u8 (L (L za1 [L (L za0 y) 0, L (L za0 y) 1, L (L za0 y) 2, L (L za0 y) 3, L (L za0 y) 4, L (L za0 y) 5, L (L za0 y) 6, L (L za0 y) 7, L (L za0 y) 8, L (L za0 y) 9, L (L za0 y) 10, L (L za0 y) 11, L (L za0 y) 12, L (L za0 y) 13, L (L za0 y) 14, L (L za0 y) 15]) 3), .int .u8 (L (L za1 [L (L za0 y) 0, L (L za0 y) 1, L (L za0 y) 2, L (L za0 y) 3, L (L za0 y) 4, L (L za0 y) 5, L (L za0 y) 6, L (L za0 y) 7, L (L za0 y) 8, L (L za0 y) 9, L (L za0 y) 10, L (L za0 y) 11, L (L za0 y) 12, L (L za0 y) 13, L (L za0 y) 14, L (L za0 y) 15]) 4), .int .u8 (L (L za1 [L (L za0 y) 0, L (L za0 y) 1, L (L za0 y) 2, L (L za0 y) 3, L (L za0 y) 4, L (L za0 y) 5, L (L za0 y) 6, L (L za0 y) 7, L (L za0 y) 8, L (L za0 y) 9, L (L za0 y) 10, L (L za0 y) 11, L (L za0 y) 12, L (L za0 y) 13, L (L za0 y) 14, L (L za0 y) 15]) 5), .int .u8 (L (L za1 [L (L za0 y) 0, L (L za0 y) 1, L (L za0 y) 2, L (L za0 y) 3, L (L za0 y) 4, L (L za0 y) 5, L (L za0 y) 6, L (L za0 y) 7, L (L za0 y) 8, L (L za0 y) 9, L (L za0 y) 10, L (L za0 y) 11, L (L za0 y) 12, L (L za0 y) 13, L (L za0 y) 14, L (L za0 y) 15]) 6), .int .u8 (L (L za1 [L (L za0 y) 0, L (L za0 y) 1, L (L za0 y) 2, L (L za0 y) 3, L (L za0 y) 4, L (L za0 y) 5, L (L za0 y) 6, L (L za0 y) 7, L (L za0 y) 8, L (L za0 y) 9, L (L za0 y) 10, L (L za0 y) 11, L (L za0 y) 12, L (L za0 y) 13, L (L za0 y) 14, L (L za0 y) 15]) 7), .int .u8 (L (L za1 [L (L za0 y) 0, L (L za0 y) 1, L (L za0 y) 2, L (L za0 y) 3, L (L za0 y) 4, L (L za0 y) 5, L (L za0 y) 6, L (L za0 y) 7, L (L za0 y) 8, L (L za0 y) 9, L (L za0 y) 10, L (L za0 y) 11, L (L za0 y) 12, L (L za0 y) 13, L (L za0 y) 14, L (L za0 y) 15]) 8), .int .u8 (L (L za1 [L (L za0 y) 0, L (L za0 y) 1, L (L za0 y) 2, L (L za0 y) 3, L (L za0 y) 4, L (L za0 y) 5, L (L za0 y) 6, L (L za0 y) 7, L (L za0 y) 8, L (L za0 y) 9, L (L za0 y) 10, L (L za0 y) 11, L (L za0 y) 12, L (L za0 y) 13, L (L za0 y) 14, L (L za0 y) 15]) 9), .int .u8 (L (L za1 [L (L za0 y) 0, L (L za0 y) 1, L (L za0 y) 2, L (L za0 y) 3, L (L za0 y) 4, L (L za0 y) 5, L (L za0 y) 6, L (L za0 y) 7, L (L za0 y) 8, L (L za0 y) 9, L (L za0 y) 10, L (L za0 y) 11, L (L za0 y) 12, L (L za0 y) 13, L (L za0 y) 14, L (L za0 y) 15]) 10), .int .u8 (L (L za1 [L (L za0 y) 0, L (L za0 y) 1, L (L za0 y) 2, L (L za0 y) 3, L (L za0 y) 4, L (L za0 y) 5, L (L za0 y) 6, L (L za0 y) 7, L (L za0 y) 8, L (L za0 y) 9, L (L za0 y) 10, L (L za0 y) 11, L (L za0 y) 12, L (L za0 y) 13, L (L za0 y) 14, L (L za0 y) 15]) 11), .int .u8 (L (L za1 [L (L za0 y) 0, L (L za0 y) 1, L (L za0 y) 2, L (L za0 y) 3, L (L za0 y) 4, L (L za0 y) 5, L (L za0 y) 6, L (L za0 y) 7, L (L za0 y) 8, L (L za0 y) 9, L (L za0 y) 10, L (L za0 y) 11, L (L za0 y) 12, L (L za0 y) 13, L (L za0 y) 14, L (L za0 y) 15]) 12), .int .u8 (L (L za1 [L (L za0 y) 0, L (L za0 y) 1, L (L za0 y) 2, L (L za0 y) 3, L (L za0 y) 4, L (L za0 y) 5, L (L za0 y) 6, L (L za0 y) 7, L (L za0 y) 8, L (L za0 y) 9, L (L za0 y) 10, L (L za0 y) 11, L (L za0 y) 12, L (L za0 y) 13, L (L za0 y) 14, L (L za0 y) 15]) 13), .int .u8 (L (L za1 [L (L za0 y) 0, L (L za0 y) 1, L (L za0 y) 2, L (L za0 y) 3, L (L za0 y) 4, L (L za0 y) 5, L (L za0 y) 6, L (L za0 y) 7, L (L za0 y) 8, L (L za0 y) 9, L (L za0 y) 10, L (L za0 y) 11, L (L za0 y) 12, L (L za0 y) 13, L (L za0 y) 14, L (L za0 y) 15]) 14), .int .u8 (L (L za1 [L (L za0 y) 0, L (L za0 y) 1, L (L za0 y) 2, L (L za0 y) 3, L (L za0 y) 4, L (L za0 y) 5, L (L za0 y) 6, L (L za0 y) 7, L (L za0 y) 8, L (L za0 y) 9, L (L za0 y) 10, L (L za0 y) 11, L (L za0 y) 12, L (L za0 y) 13, L (L za0 y) 14, L (L za0 y) 15]) 15)])) = True := by subst hL; exact fun y => eq_true (zc3 y).1
 have hG : ∀ y : List Le, L zak (.lst 18 (L zfl y) (fun i => leC L (L (L zao y) i))) = y := by subst hL; exact fun y => zoh y
 have hGo : ∀ y : List Le, (L zfa (.lst 18 (L zfl y) (fun i => leC L (L (L zao y) i)))) = True := by subst hL; exact fun y => eq_true (zos y)
 have h2 : ∀ a b : Int, L zar (.agg [.int .u8 a, .int .u8 b, .int .u8 0, .int .u8 0, .int .u8 0, .int .u8 0, .int .u8 0, .int .u8 0, .int .u8 0, .int .u8 0, .int .u8 0, .int .u8 0, .int .u8 0, .int .u8 0, .int .u8 0, .int .u8 0]) = L (L pr2 a) b := by subst hL; exact fun a b => (yfi a b).2
 have h2o : ∀ a b : Int, (L zd2 (.agg [.int .u8 a, .int .u8 b, .int .u8 0, .int .u8 0, .int .u8 0, .int .u8 0, .int .u8 0, .int .u8 0, .int .u8 0, .int .u8 0, .int .u8 0, .int .u8 0, .int .u8 0, .int .u8 0, .int .u8 0, .int .u8 0])) = True := by subst hL; exact fun a b => eq_true (yfi a b).1
 have h2n : ∀ a b : Int, L zar (.agg [.int .u8 (L (L za1 [a, b, 0, 0, 0, 0, 0, 0, 0, 0, 0, 0, 0, 0, 0, 0]) 0), .int .u8 (L (L za1 [a, b, 0, 0, 0, 0, 0, 0, 0, 0, 0, 0, 0, 0, 0, 0]) 1), .int .u8 (L (L za1 [a, b, 0, 0, 0, 0, 0, 0, 0, 0, 0, 0, 0, 0, 0, 0]) 2), .int .u8 (L (L za1 [a, b, 0, 0, 0, 0, 0, 0, 0, 0, 0, 0, 0, 0, 0, 0]) 3), .int .u8 (L (L za1 [a, b, 0, 0, 0, 0, 0, 0, 0, 0, 0, 0, 0, 0, 0, 0]) 4), .int .u8 (L (L za1 [a, b, 0, 0, 0, 0, 0, 0, 0, 0, 0, 0, 0, 0, 0, 0]) 5), .int .u8 (L (L za1 [a, b, 0, 0, 0, 0, 0, 0, 0, 0, 0, 0, 0, 0, 0, 0]) 6), .int .u8 (L (L za1 [a, b, 0, 0, 0, 0, 0, 0, 0, 0, 0, 0, 0, 0, 0, 0]) 7), .int .u8 (L (L za1 [a, b, 0, 0, 0, 0, 0, 0, 0, 0, 0, 0, 0, 0, 0, 0]) 8), .int .u8 (L (L za1 [a, b, 0, 0, 0, 0, 0, 0, 0, 0, 0, 0, 0, 0, 0, 0]) 9), .int .u8 (L (L za1 [a, b, 0, 0, 0, 0, 0, 0, 0, 0, 0, 0, 0, 0, 0, 0]) 10), .int .u8 (L (L za1 [a, b, 0, 0, 0, 0, 0, 0, 0, 0, 0, 0, 0, 0, 0, 0]) 11), .int .u8 (L (L za1 [a, b, 0, 0, 0, 0, 0, 0, 0, 0, 0, 0, 0, 0, 0, 0]) 12), .int .u8 (L (L za1 [a, b, 0, 0, 0, 0, 0, 0, 0, 0, 0, 0, 0, 0, 0, 0]) 13), .int .u8 (L (L za1 [a, b, 0, 0, 0, 0, 0, 0, 0, 0, 0, 0, 0, 0, 0, 0]) 14), .int .u8 (L (L za1 [a, b, 0, 0, 0, 0, 0, 0, 0, 0, 0, 0, 0, 0, 0, 0]) 15)]) = L (L pr2 a) b := by subst hL; exact fun a b => (yfi a b).2
 have h2no : ∀ a b : Int, (L zd2 (.agg [.int .u8 (L (L za1 [a, b, 0, 0, 0, 0, 0, 0, 0, 0, 0, 0, 0, 0, 0, 0]) 0), .int .u8 (L (L za1 [a, b, 0, 0, 0, 0, 0, 0, 0, 0, 0, 0, 0, 0, 0, 0]) 1), .int .u8 (L (L za1 [a, b, 0, 0, 0, 0, 0, 0, 0, 0, 0, 0, 0, 0, 0, 0]) 2), .int .u8 (L (L za1 [a, b, 0, 0, 0, 0, 0, 0, 0, 0, 0, 0, 0, 0, 0, 0]) 3), .int .u8 (L (L za1 [a, b, 0, 0, 0, 0, 0, 0, 0, 0, 0, 0, 0, 0, 0, 0]) 4), .int .u8 (L (L za1 [a, b, 0, 0, 0, 0, 0, 0, 0, 0, 0, 0, 0, 0, 0, 0]) 5), .int .u8 (L (L za1 [a, b, 0, 0, 0, 0, 0, 0, 0, 0, 0, 0, 0, 0, 0, 0]) 6), .int .u8 (L (L za1 [a, b, 0, 0, 0, 0, 0, 0, 0, 0, 0, 0, 0, 0, 0, 0]) 7), .int .u8 (L (L za1 [a, b, 0, 0, 0, 0, 0, 0, 0, 0, 0, 0, 0, 0, 0, 0]) 8), .int .u8 (L (L za1 [a, b, 0, 0, 0, 0, 0, 0, 0, 0, 0, 0, 0, 0, 0, 0]) 9), .int .u8 (L (L za1 [a, b, 0, 0, 0, 0, 0, 0, 0, 0, 0, 0, 0, 0, 0, 0]) 10), .int .u8 (L (L za1 [a, b, 0, 0, 0, 0, 0, 0, 0, 0, 0, 0, 0, 0, 0, 0]) 11), .int .u8 (L (L za1 [a, b, 0, 0, 0, 0, 0, 0, 0, 0, 0, 0, 0, 0, 0, 0]) 12), .int .u8 (L (L za1 [a, b, 0, 0, 0, 0, 0, 0, 0, 0, 0, 0, 0, 0, 0, 0]) 13), .int .u8 (L (L za1 [a, b, 0, 0, 0, 0, 0, 0, 0, 0, 0, 0, 0, 0, 0, 0]) 14), .int .u8 (L (L za1 [a, b, 0, 0, 0, 0, 0, 0, 0, 0, 0, 0, 0, 0, 0, 0]) 15)])) = True := by subst hL; exact fun a b => eq_true (yfi a b).1
 have hN : L zak .nils = [] := by subst hL; rfl
 have hNo : (L zfa .nils) = True := by subst hL; exact eq_true trivial
 (cbv; try simp only [syT, true_and, and_true])
 simp only [h2, h2o, hN, hNo, true_and, hG, hGo]
 clear hE hEo hF hFo hEta hMp hQ0 hQo hQ1 hQ1o hG hGo
 subst hL; subst hQ
 have o1 : zgx (pr2 1 0) := zk4 (by omega) (by omega)
 have e1 : ieq (zc1 [] (pr2 1 0) 1) 0 = true := by decide +kernel
 have e2 : (zbo (zbq [] (pr2 1 0) 1) (pr2 1 0)).h = true := by decide +kernel
 have e3 : (zbo [] (pr2 1 0)).h = false := rfl
 have o2 := yeo 1 zta o1
 have o3 := ya9 1 zta o1 (by decide)
 have o3 : zdz (zbq [] (pr2 1 0) 1) := by show (zbq [] (pr2 1 0) 1).length <= 1000000; omega
 have o0 : zdz [] := by show [].length <= 1000000; decide
 refine ⟨⟨o0, zta, o1⟩, fun _ => ⟨fun _ => ⟨fun _ => ⟨⟨o3, o2, o1⟩, fun _ => ⟨⟨o0, zta, o1⟩, ?_⟩, fun h => ?_⟩, fun h => ?_⟩, fun h => (by cases h)⟩, fun h => (by cases h)⟩
 · show zfi (.bool true) (.bool (!(zbo [] (pr2 1 0)).h))
   rw [e3, zbv]; rfl
 · have h : (zbo (zbq [] (pr2 1 0) 1) (pr2 1 0)).h = false := h
   rw [e2] at h; cases h
 · have h : ieq (zc1 [] (pr2 1 0) 1) 0 = false := h
   rw [e1] at h; cases h
def fuN (c : Int × Int) (m : Nat) : Int := if (m : Int) = c.1 then 1 else c.2
def fuE (c : Int × Int) (m : Nat) : Le := ⟨pr2 m 1, fuN c m, decide (c.2 <= fuN c m)⟩
def fuB (c : Int × Int) (i : Nat) : List Le := (List.range i).map (fuE c)
def fuT (c : Int × Int) (i j : Nat) : List Le := if j = 0 then [] else [⟨pr2 i 1, j, decide (c.2 <= (j : Int))⟩]
def fuL (c : Int × Int) (i j : Nat) : List Le := fuB c i ++ fuT c i j
def fuC (c : Int × Int) : Prop := 0 <= c.1 /\ c.1 < 70 /\ 2 <= c.2 /\ c.2 <= 255
theorem yfl {a b : Nat} (h : a < b) : prN (pr2 a 1) < prN (pr2 b 1) := by
 have key : ∀ a : Nat, prN (pr2 a 1) = a * 256 ^ 15 + zkm [1, 0, 0, 0, 0, 0, 0, 0, 0, 0, 0, 0, 0, 0, 0] := by
   intro a
   show zkm [(a : Int), 1, 0, 0, 0, 0, 0, 0, 0, 0, 0, 0, 0, 0, 0, 0] = _
   rw [zet, Int.toNat_natCast]; rfl
 rw [key, key]
 exact Nat.add_lt_add_right (Nat.mul_lt_mul_of_pos_right h (Nat.pow_pos (by decide))) _
theorem zph {c : Int × Int} (h : fuC c) (m : Nat) : 1 <= fuN c m /\ fuN c m <= 255 := by
 obtain ⟨h1, h2, h3, h4⟩ := h
 unfold fuN
 split <;> omega
theorem ymw {c : Int × Int} (h : fuC c) {m : Nat} (hm : m < 64) : zix (fuE c m) := by
 obtain ⟨h1, h2⟩ := zph h m
 exact ⟨zk4 (by omega) (by omega), by show 0 <= fuN c m; omega, h2⟩
theorem yg8 {c : Int × Int} (h : fuC c) {i : Nat} (hi : i <= 64) : zde (fuB c i) := by
 refine ⟨?_, fun e he => ?_⟩
 · unfold fuB
   rw [List.pairwise_map]
   exact List.pairwise_lt_range.imp fun {a b} hab => yfl hab
 · unfold fuB at he
   obtain ⟨m, hm, rfl⟩ := List.mem_map.1 he
   have := List.mem_range.1 hm
   exact ymw h (by omega)
theorem ymx {c : Int × Int} {i : Nat} {x : Le} (hx : x ∈ fuB c i) : kLe x < prN (pr2 i 1) := by
 unfold fuB at hx
 obtain ⟨m, hm, rfl⟩ := List.mem_map.1 hx
 exact yfl (List.mem_range.1 hm)
theorem yic {l : List Le} {e : Le} (hl : zde l) (he : zix e) (h : ∀ x ∈ l, kLe x < kLe e) : zde (l ++ [e]) := by
 refine ⟨?_, fun x hx => ?_⟩
 · rw [List.pairwise_append]
   exact ⟨hl.ris, by simp, fun a ha b hb => by rw [List.mem_singleton.1 hb]; exact h a ha⟩
 · rcases List.mem_append.1 hx with hx | hx
   · exact hl.ok x hx
   · rw [List.mem_singleton.1 hx]; exact he
theorem yg7 {l : List Le} {p : Pr} (h : ∀ x ∈ l, kLe x < prN p) : zb6 p l = false := by
 unfold zb6
 rw [List.any_eq_false]
 intro x hx h2
 have := h x hx
 rw [kLe, of_decide_eq_true h2] at this
 omega
theorem yg1 {k : Nat} : ∀ {l : List Le}, (∀ x ∈ l, kLe x < k) -> zc6 k l = l.length
 | [], _ => rfl
 | e :: l, h => by
   unfold zc6
   rw [if_pos (h e (by simp)), yg1 (fun x hx => h x (List.mem_cons_of_mem _ hx)), List.length_cons]
theorem zz8 {k : Nat} {e : Le} (he : ¬ kLe e < k) : ∀ {l : List Le}, (∀ x ∈ l, kLe x < k) -> zc6 k (l ++ [e]) = l.length
 | [], _ => by show zc6 k [e] = 0; unfold zc6; rw [if_neg he]
 | x :: l, h => by
   rw [List.cons_append]
   unfold zc6
   rw [if_pos (h x (by simp)), zz8 he (fun x hx => h x (List.mem_cons_of_mem _ hx)), List.length_cons]
theorem yhq {l : List Le} {e : Le} (h : ∀ x ∈ l, kLe x < kLe e) (hk : zd5 e = true) : zbu l e = l ++ [e] := by
 unfold zbu zdl zw0
 rw [if_pos hk, if_neg (by rw [yg7 h]; decide), yg1 h, List.take_length, List.drop_length]
theorem ycs {l : List Le} {e0 e : Le} (hp : e0.p = e.p) (h : ∀ x ∈ l, kLe x < kLe e) (hk : zd5 e = true) : zbu (l ++ [e0]) e = l ++ [e] := by
 have hke : kLe e0 = kLe e := by rw [kLe, hp]; rfl
 unfold zbu zdl zw0 zcu
 have hh : zb6 e.p (l ++ [e0]) = true := zib.2 ⟨e0, by simp, hp⟩
 rw [if_pos hk, if_pos hh, zz8 (by omega) h]
 simp
theorem zzs {c : Int × Int} (h : fuC c) {i j : Nat} (hi : i < 64) (hj : (j : Int) < fuN c i) : zc1 (fuL c i j) (pr2 i 1) c.2 = 0 /\ zbq (fuL c i j) (pr2 i 1) c.2 = fuL c i (j + 1) /\ zde (fuL c i j) := by
 obtain ⟨h1, h2, h3, h4⟩ := h
 have h : fuC c := ⟨h1, h2, h3, h4⟩
 obtain ⟨n1, n2⟩ := zph h i
 have hb := yg8 h (i := i) (by omega)
 have hlen : (fuB c i).length = i := by simp [fuB]
 have hlt : ∀ x ∈ fuB c i, kLe x < prN (pr2 i 1) := fun x hx => ymx hx
 have hno := yg7 hlt
 have hd : ∀ d h' , kLe (⟨pr2 i 1, d, h'⟩ : Le) = prN (pr2 i 1) := fun _ _ => rfl
 have hkn : ∀ (d : Int) (h' : Bool), 0 < d -> zd5 (⟨pr2 i 1, d, h'⟩ : Le) = true := fun d h' hd => by simp [zd5, hd]
 have hL1 : fuL c i (j + 1) = fuB c i ++ [⟨pr2 i 1, (j : Int) + 1, decide (c.2 <= (j : Int) + 1)⟩] := by
   unfold fuL fuT
   rw [if_neg (by omega)]; rfl
 by_cases h0 : j = 0
 · subst h0
   have hL : fuL c i 0 = fuB c i := by unfold fuL fuT; rw [if_pos rfl, List.append_nil]
   have hf : ¬ zfn (fuB c i) (pr2 i 1) = true := by
     unfold zfn
     rw [decide_eq_false (show ¬ 64 <= (fuB c i).length by omega), Bool.and_false]; decide
   have hE : zc1 (fuB c i) (pr2 i 1) c.2 = 0 := by
     unfold zc1
     rw [if_neg (by omega), if_neg (fun h => hf h.1)]
   rw [hL]
   refine ⟨hE, ?_, hb⟩
   unfold zbq zcr
   rw [if_pos hE, if_neg hf, zkx hno, hL1]
   have e : ybv ⟨pr2 i 1, 0, false⟩ c.2 = ⟨pr2 i 1, ((0 : Nat) : Int) + 1, decide (c.2 <= ((0 : Nat) : Int) + 1)⟩ := by
     show Le.mk (pr2 i 1) (min (0 + 1) 255) (false || decide (c.2 <= min (0 + 1) 255)) = _
     rw [show min ((0 : Int) + 1) 255 = ((0 : Nat) : Int) + 1 from by decide, Bool.false_or]
   rw [e]
   exact yhq (fun x hx => hlt x hx) (hkn _ _ (by omega))
 · have hL : fuL c i j = fuB c i ++ [⟨pr2 i 1, (j : Int), decide (c.2 <= (j : Int))⟩] := by
     unfold fuL fuT
     rw [if_neg h0]
   have hlo : zde (fuB c i ++ [⟨pr2 i 1, (j : Int), decide (c.2 <= (j : Int))⟩]) := yic hb ⟨zk4 (by omega) (by omega), by show 0 <= (j : Int); omega, by show (j : Int) <= 255; omega⟩ (fun x hx => hlt x hx)
   have hh : zb6 (pr2 i 1) (fuB c i ++ [⟨pr2 i 1, (j : Int), decide (c.2 <= (j : Int))⟩]) = true := zib.2 ⟨⟨pr2 i 1, (j : Int), decide (c.2 <= (j : Int))⟩, by simp, rfl⟩
   have hf : ¬ zfn (fuB c i ++ [⟨pr2 i 1, (j : Int), decide (c.2 <= (j : Int))⟩]) (pr2 i 1) = true := by
     unfold zfn
     rw [hh]; simp
   have hE : zc1 (fuB c i ++ [⟨pr2 i 1, (j : Int), decide (c.2 <= (j : Int))⟩]) (pr2 i 1) c.2 = 0 := by
     unfold zc1
     rw [if_neg (by omega), if_neg (fun h => hf h.1)]
   rw [hL]
   refine ⟨hE, ?_, hlo⟩
   unfold zbq zcr
   have hg : zbo (fuB c i ++ [⟨pr2 i 1, (j : Int), decide (c.2 <= (j : Int))⟩]) (pr2 i 1) = ⟨pr2 i 1, (j : Int), decide (c.2 <= (j : Int))⟩ := znl (e := ⟨pr2 i 1, (j : Int), decide (c.2 <= (j : Int))⟩) hlo (by simp)
   rw [if_pos hE, if_neg hf, hg, hL1]
   have e : ybv ⟨pr2 i 1, (j : Int), decide (c.2 <= (j : Int))⟩ c.2 = ⟨pr2 i 1, (j : Int) + 1, decide (c.2 <= (j : Int) + 1)⟩ := by
     unfold ybv
     have e1 : min ((j : Int) + 1) 255 = (j : Int) + 1 := by omega
     have e2 : (decide (c.2 <= (j : Int)) || decide (c.2 <= (j : Int) + 1)) = decide (c.2 <= (j : Int) + 1) := by
       by_cases h5 : c.2 <= (j : Int) + 1
       · rw [decide_eq_true h5, Bool.or_true]
       · rw [decide_eq_false h5, decide_eq_false (by omega)]; rfl
     simp only [e1, e2]
   rw [e]
   exact ycs rfl (fun x hx => hlt x hx) (hkn _ _ (by omega))
theorem yj8 {c : Int × Int} (h : fuC c) {i j : Nat} (hj : (j : Int) = fuN c i) : fuL c i j = fuL c (i + 1) 0 := by
 obtain ⟨n1, n2⟩ := zph h i
 unfold fuL fuT fuB
 rw [if_neg (by omega), if_pos rfl, List.append_nil, List.range_succ, List.map_append]
 congr 1
 simp only [List.map_cons, List.map_nil, fuE, <- hj]
theorem ymv (c : Int × Int) (i j : Nat) : (fuL c i j).length <= i + 1 := by
 unfold fuL fuT fuB
 split <;> simp
def fuQ : Pr := pr2 200 0
theorem zr8 {c : Int × Int} (h : fuC c) : zde (fuL c 64 0) /\ (fuL c 64 0).length = 64 /\ zfn (fuL c 64 0) fuQ = true /\ fuL c 64 0 = fuB c 64 := by
 have hL : fuL c 64 0 = fuB c 64 := by unfold fuL fuT; rw [if_pos rfl, List.append_nil]
 have hb := yg8 h (Nat.le_refl 64)
 have hlen : (fuB c 64).length = 64 := by simp [fuB]
 rw [hL]
 refine ⟨hb, hlen, ?_, rfl⟩
 unfold zfn
 have : zb6 fuQ (fuB c 64) = false := by
   unfold zb6
   rw [List.any_eq_false]
   intro x hx h2
   unfold fuB at hx
   obtain ⟨m, hm, rfl⟩ := List.mem_map.1 hx
   have := (zqm (of_decide_eq_true h2 : pr2 m 1 = pr2 200 0)).2
   omega
 rw [this, hlen]; rfl
theorem zr7 {c : Int × Int} (h : fuC c) (m : Nat) : (fuE c m).h = decide (¬ (m : Int) = c.1) := by
 obtain ⟨h1, h2, h3, h4⟩ := h
 show decide (c.2 <= fuN c m) = _
 unfold fuN
 by_cases hm : (m : Int) = c.1
 · rw [if_pos hm, decide_eq_false (by omega), decide_eq_false (by simpa using hm)]
 · rw [if_neg hm, decide_eq_true (by omega), decide_eq_true hm]
theorem yj7 {c : Int × Int} (h : fuC c) (h64 : 64 <= c.1) : zc1 (fuL c 64 0) fuQ c.2 = 17 /\ zbq (fuL c 64 0) fuQ c.2 = [] := by
 obtain ⟨_, f2, f3, f4⟩ := zr8 h
 obtain ⟨h1, h2, h3, h4⟩ := h
 have h : fuC c := ⟨h1, h2, h3, h4⟩
 have hn : ¬ firstFree (fuL c 64 0) < (fuL c 64 0).length := by
   unfold firstFree
   rw [List.findIdx_lt_length]
   rintro ⟨x, hx, hf⟩
   rw [f4] at hx
   unfold fuB at hx
   obtain ⟨m, hm, rfl⟩ := List.mem_map.1 hx
   have := List.mem_range.1 hm
   rw [zr7 h, decide_eq_true (by omega)] at hf
   cases hf
 have hE : zc1 (fuL c 64 0) fuQ c.2 = 17 := by
   unfold zc1
   rw [if_neg (by omega), if_pos ⟨f3, hn⟩]
 refine ⟨hE, ?_⟩
 unfold zbq
 rw [if_neg (by rw [hE]; decide)]
theorem ymu {c : Int × Int} (h : fuC c) (h64 : c.1 < 64) : zc1 (fuL c 64 0) fuQ c.2 = 0 /\ zde (zbq (fuL c 64 0) fuQ c.2) /\ (zbq (fuL c 64 0) fuQ c.2).length = 64 /\ (zbo (zbq (fuL c 64 0) fuQ c.2) (pr2 c.1 1)).d = 0 /\ (zbo (zbq (fuL c 64 0) fuQ c.2) fuQ).d = 1 := by
 obtain ⟨f1, f2, f3, f4⟩ := zr8 h
 obtain ⟨h1, h2, h3, h4⟩ := h
 have h : fuC c := ⟨h1, h2, h3, h4⟩
 obtain ⟨m, hm⟩ := Int.eq_ofNat_of_zero_le h1
 have hm64 : m < 64 := by omega
 have hat : ∀ (j : Nat) (hj : j < (fuL c 64 0).length), (fuL c 64 0)[j] = fuE c j := by
   intro j hj
   simp only [f4, fuB, List.getElem_map, List.getElem_range]
 have hff : firstFree (fuL c 64 0) = m := by
   unfold firstFree
   rw [List.findIdx_eq (by rw [f2]; exact hm64)]
   refine ⟨?_, fun j hj => ?_⟩
   · rw [hat, zr7 h, decide_eq_false (by simp [hm])]; rfl
   · rw [hat, zr7 h, decide_eq_true (by omega)]; rfl
 have hE : zc1 (fuL c 64 0) fuQ c.2 = 0 := by
   unfold zc1
   rw [if_neg (by omega), if_neg (by rw [hff, f2]; simp [hm64])]
 have hq : zgx fuQ := zk4 (by omega) (by omega)
 have hno : zb6 fuQ (fuL c 64 0) = false := by
   unfold zfn at f3
   simp at f3
   exact f3.1
 have hD : zbq (fuL c 64 0) fuQ c.2 = zbu (zcu m (fuL c 64 0)) ⟨fuQ, 1, false⟩ := by
   unfold zbq zcr
   rw [if_pos hE, if_pos f3, hff, zkx hno]
   congr 1
   unfold ybv
   simp
   omega
 have hc := zjb (i := m) f1
 have he : zix ⟨fuQ, 1, false⟩ := ⟨hq, by show (0 : Int) <= 1; decide, by show (1 : Int) <= 255; decide⟩
 have hnc : zb6 fuQ (zcu m (fuL c 64 0)) = false := by
   cases hh : zb6 fuQ (zcu m (fuL c 64 0)) with
   | false => rfl
   | true =>
     obtain ⟨x, hx, hp⟩ := zib.1 hh
     rw [zib.2 ⟨x, zhc hx, hp⟩] at hno
     cases hno
 rw [hD]
 refine ⟨hE, zna hc he, ?_, ?_, ?_⟩
 · have hl := ze1 (i := m) (l := fuL c 64 0) (by omega)
   have ho : zdl ⟨fuQ, 1, false⟩ (zcu m (fuL c 64 0)) = zcu m (fuL c 64 0) := by
     unfold zdl
     rw [if_neg (by rw [hnc]; decide)]
   unfold zbu
   rw [if_pos (by rfl), ho, zj9 (zi8 _ _)]
   omega
 · rw [zzr hc he, if_neg (by intro e; have := (zqm (e : pr2 c.1 1 = pr2 200 0)).2; omega)]
   rw [zr4]
   intro x hx hp
   obtain ⟨j, hj, rfl⟩ := List.getElem_of_mem (zhc hx)
   have hjm : (j : Int) = c.1 := by
     have hp : (fuE c j).p = pr2 c.1 1 := by rw [<- hat j hj]; exact hp
     exact (zqm (hp : pr2 j 1 = pr2 c.1 1)).1
   have hjm : j = m := by omega
   unfold zcu at hx
   rcases List.mem_append.1 hx with hx | hx
   · obtain ⟨q, hq2, e⟩ := List.mem_take_iff_getElem.1 hx
     have := List.pairwise_iff_getElem.1 f1.ris q j (by omega) hj (by omega)
     rw [e] at this; omega
   · obtain ⟨q, hq2, e⟩ := List.mem_drop_iff_getElem.1 hx
     have := List.pairwise_iff_getElem.1 f1.ris j (m + 1 + q) hj (by omega) (by omega)
     rw [e] at this; omega
 · rw [zzr hc he, if_pos rfl, if_pos (by rfl)]
def fuI (i : Nat) : Prop := i <= 64
def fuMu (i : Nat) : Nat := 64 - i
def fuJ (n : Int) (j : Nat) : Prop := (j : Int) <= n
def yq0 (n : Int) (j : Nat) : Nat := (n - j).toNat
def fuV (c : Int × Int) (i : Nat) (y : Int) : Prop := y = fuN c i
def ype {α : Type} (_ : α) : Nat := 0
def fuA (L : za9) (c : Int × Int) : Nat -> St -> Option Ann := fun id st => match id with
 | 0 => some ⟨Nat, fun i => [(15, .int .i64 (L zab i))], fun i => [(5, .box 25 [zdb L (L (L (L fuL c) i) 0)])], [0, 1, 4, 5], [], fun i => L fuI i, fun i => L fuMu i⟩
 | 1000024 => zqa st 6 fun i => some ⟨Int, fun y => [(7, .int .i64 y)], fun _ => [], [0, 1, 4, 5, 6, 15], [5], fun y => L3 L fuV c (L Int.toNat i) y, fun y => L ype y⟩
 | 2 => zqa st 6 fun i => zqa st 25 fun n => some ⟨Nat, fun j => [(26, .int .i64 (L zab j))], fun j => [(5, .box 25 [zdb L (L (L (L fuL c) (L Int.toNat i)) j)])], [0, 1, 4, 5, 6, 15, 25], [], fun j => L2 L fuJ n j, fun j => L2 L yq0 n j⟩
 | _ => none
theorem yj6 (f k : Int) (hf : 0 <= f /\ f < 256) (hk : 0 <= k /\ k < 256) : zac Tryz.prog 3 [.int .u8 f, .int .u8 k] (.bool true) := by
 obtain ⟨c, hc⟩ : ∃ c : Int × Int, c = (f.tmod 70, k) := ⟨_, rfl⟩
 refine zau (T := tt) (S := fun L => zbf [tru 7, yds L, zz2 L, yih L]) (lo := fun L => fuA L c) (lb := noA) 5 (fn := Tryz.f3) (xs := fun L => [.int .u8 f, .int .u8 k]) rfl rfl (by kernel_rfl) (by kernel_rfl) rfl zae (za7 ⟨zby zvm, zt9, zn8, ydx, trivial⟩) (by kernel_rfl) ?_
 intro L P' Q' hL hP hQ
 have hE : ∀ (y : Pr) (d : Int) (h : Bool), L zc4 (.agg [.int .u8 (L (L za0 y) 0), .int .u8 (L (L za0 y) 1), .int .u8 (L (L za0 y) 2), .int .u8 (L (L za0 y) 3), .int .u8 (L (L za0 y) 4), .int .u8 (L (L za0 y) 5), .int .u8 (L (L za0 y) 6), .int .u8 (L (L za0 y) 7), .int .u8 (L (L za0 y) 8), .int .u8 (L (L za0 y) 9), .int .u8 (L (L za0 y) 10), .int .u8 (L (L za0 y) 11), .int .u8 (L (L za0 y) 12), .int .u8 (L (L za0 y) 13), .int .u8 (L (L za0 y) 14), .int .u8 (L (L za0 y) 15), .int .i64 d, .bool h]) = L (L (L Le.mk y) d) h := by subst hL; exact fun y d h => (zc9 ⟨y, d, h⟩).2
 have hEo : ∀ (y : Pr) (d : Int) (h : Bool), (L zei (.agg [.int .u8 (L (L za0 y) 0), .int .u8 (L (L za0 y) 1), .int .u8 (L (L za0 y) 2), .int .u8 (L (L za0 y) 3), .int .u8 (L (L za0 y) 4), .int .u8 (L (L za0 y) 5), .int .u8 (L (L za0 y) 6), .int .u8 (L (L za0 y) 7), .int .u8 (L (L za0 y) 8), .int .u8 (L (L za0 y) 9), .int .u8 (L (L za0 y) 10), .int .u8 (L (L za0 y) 11), .int .u8 (L (L za0 y) 12), .int .u8 (L (L za0 y) 13), .int .u8 (L (L za0 y) 14), .int .u8 (L (L za0 y) 15), .int .i64 d, .bool h])) = True := by subst hL; exact fun y d h => eq_true (zc9 ⟨y, d, h⟩).1
 have hF : ∀ (y : Pr) (d : Int) (h : Bool), L zc4 (.agg [.int .u8 (L (L za1 [L (L za0 y) 0, L (L za0 y) 1, L (L za0 y) 2, L (L za0 y) 3, L (L za0 y) 4, L (L za0 y) 5, L (L za0 y) 6, L (L za0 y) 7, L (L za0 y) 8, L (L za0 y) 9, L (L za0 y) 10, L (L za0 y) 11, L (L za0 y) 12, L (L za0 y) 13, L (L za0 y) 14, L (L za0 y) 15]) 0), .int .u8 (L (L za1 [L (L za0 y) 0, L (L za0 y) 1, L (L za0 y) 2, L (L za0 y) 3, L (L za0 y) 4, L (L za0 y) 5, L (L za0 y) 6, L (L za0 y) 7, L (L za0 y) 8, L (L za0 y) 9, L (L za0 y) 10, L (L za0 y) 11, L (L za0 y) 12, L (L za0 y) 13, L (L za0 y) 14, L (L za0 y) 15]) 1), .int .u8 (L (L za1 [L (L za0 y) 0, L (L za0 y) 1, L (L za0 y) 2, L (L za0 y) 3, L (L za0 y) 4, L (L za0 y) 5, L (L za0 y) 6, L (L za0 y) 7, L (L za0 y) 8, L (L za0 y) 9, L (L za0 y) 10, L (L za0 y) 11, L (L za0 y) 12, L (L za0 y) 13, L (L za0 y) 14, L (L za0 y) 15]) 2), .int .u8 (L (L za1 [L (L za0 y) 0, L (L za0 y) 1, L (L za0 y) 2, L (L za0 y) 3, L (L za0 y) 4, L (L za0 y) 5, L (L za0 y) 6, L (L za0 y) 7, L (L za0 y) 8, L (L za0 y) 9, L (L za0 y) 10, L (L za0 y) 11, L (L za0 y) 12, L (L za0 y) 13, L (L za0 y) 14, L (L za0 y) 15]) 3), .int .u8 (L (L za1 [L (L za0 y) 0, L (L za0 y) 1, L (L za0 y) 2, L (L za0 y) 3, L (L za0 y) 4, L (L za0 y) 5, L (L za0 y) 6, L (L za0 y) 7, L (L za0 y) 8, L (L za0 y) 9, L (L za0 y) 10, L (L za0 y) 11, L (L za0 y) 12, L (L za0 y) 13, L (L za0 y) 14, L (L za0 y) 15]) 4), .int .u8 (L (L za1 [L (L za0 y) 0, L (L za0 y) 1, L (L za0 y) 2, L (L za0 y) 3, L (L za0 y) 4, L (L za0 y) 5, L (L za0 y) 6, L (L za0 y) 7, L (L za0 y) 8, L (L za0 y) 9, L (L za0 y) 10, L (L za0 y) 11, L (L za0 y) 12, L (L za0 y) 13, L (L za0 y) 14, L (L za0 y) 15]) 5), .int .u8 (L (L za1 [L (L za0 y) 0, L (L za0 y) 1, L (L za0 y) 2, L (L za0 y) 3, L (L za0 y) 4, L (L za0 y) 5, L (L za0 y) 6, L (L za0 y) 7, L (L za0 y) 8, L (L za0 y) 9, L (L za0 y) 10, L (L za0 y) 11, L (L za0 y) 12, L (L za0 y) 13, L (L za0 y) 14, L (L za0 y) 15]) 6), .int .u8 (L (L za1 [L (L za0 y) 0, L (L za0 y) 1, L (L za0 y) 2, L (L za0 y) 3, L (L za0 y) 4, L (L za0 y) 5, L (L za0 y) 6, L (L za0 y) 7, L (L za0 y) 8, L (L za0 y) 9, L (L za0 y) 10, L (L za0 y) 11, L (L za0 y) 12, L (L za0 y) 13, L (L za0 y) 14, L (L za0 y) 15]) 7), .int .u8 (L (L za1 [L (L za0 y) 0, L (L za0 y) 1, L (L za0 y) 2, L (L za0 y) 3, L (L za0 y) 4, L (L za0 y) 5, L (L za0 y) 6, L (L za0 y) 7, L (L za0 y) 8, L (L za0 y) 9, L (L za0 y) 10, L (L za0 y) 11, L (L za0 y) 12, L (L za0 y) 13, L (L za0 y) 14, L (L za0 y) 15]) 8), .int .u8 (L (L za1 [L (L za0 y) 0, L (L za0 y) 1, L (L za0 y) 2, L (L za0 y) 3, L (L za0 y) 4, L (L za0 y) 5, L (L za0 y) 6, L (L za0 y) 7, L (L za0 y) 8, L (L za0 y) 9, L (L za0 y) 10, L (L za0 y) 11, L (L za0 y) 12, L (L za0 y) 13, L (L za0 y) 14, L (L za0 y) 15]) 9), .int .u8 (L (L za1 [L (L za0 y) 0, L (L za0 y) 1, L (L za0 y) 2, L (L za0 y) 3, L (L za0 y) 4, L (L za0 y) 5, L (L za0 y) 6, L (L za0 y) 7, L (L za0 y) 8, L (L za0 y) 9, L (L za0 y) 10, L (L za0 y) 11, L (L za0 y) 12, L (L za0 y) 13, L (L za0 y) 14, L (L za0 y) 15]) 10), .int .u8 (L (L za1 [L (L za0 y) 0, L (L za0 y) 1, L (L za0 y) 2, L (L za0 y) 3, L (L za0 y) 4, L (L za0 y) 5, L (L za0 y) 6, L (L za0 y) 7, L (L za0 y) 8, L (L za0 y) 9, L (L za0 y) 10, L (L za0 y) 11, L (L za0 y) 12, L (L za0 y) 13, L (L za0 y) 14, L (L za0 y) 15]) 11), .int .u8 (L (L za1 [L (L za0 y) 0, L (L za0 y) 1, L (L za0 y) 2, L (L za0 y) 3, L (L za0 y) 4, L (L za0 y) 5, L (L za0 y) 6, L (L za0 y) 7, L (L za0 y) 8, L (L za0 y) 9, L (L za0 y) 10, L (L za0 y) 11, L (L za0 y) 12, L (L za0 y) 13, L (L za0 y) 14, L (L za0 y) 15]) 12), .int .u8 (L (L za1 [L (L za0 y) 0, L (L za0 y) 1, L (L za0 y) 2, L (L za0 y) 3, L (L za0 y) 4, L (L za0 y) 5, L (L za0 y) 6, L (L za0 y) 7, L (L za0 y) 8, L (L za0 y) 9, L (L za0 y) 10, L (L za0 y) 11, L (L za0 y) 12, L (L za0 y) 13, L (L za0 y) 14, L (L za0 y) 15]) 13), .int .u8 (L (L za1 [L (L za0 y) 0, L (L za0 y) 1, L (L za0 y) 2, L (L za0 y) 3, L (L za0 y) 4, L (L za0 y) 5, L (L za0 y) 6, L (L za0 y) 7, L (L za0 y) 8, L (L za0 y) 9, L (L za0 y) 10, L (L za0 y) 11, L (L za0 y) 12, L (L za0 y) 13, L (L za0 y) 14, L (L za0 y) 15]) 14), .int .u8 (L (L za1 [L (L za0 y) 0, L (L za0 y) 1, L (L za0 y) 2, L (L za0 y) 3, L (L za0 y) 4, L (L za0 y) 5, L (L za0 y) 6, L (L za0 y) 7, L (L za0 y) 8, L (L za0 y) 9, L (L za0 y) 10, L (L za0 y) 11, L (L za0 y) 12, L (L za0 y) 13, L (L za0 y) 14, L (L za0 y) 15]) 15), .int .i64 d, .bool h]) = L (L (L Le.mk y) d) h := by subst hL; exact fun y d h => (zc9 ⟨y, d, h⟩).2
 have hFo : ∀ (y : Pr) (d : Int) (h : Bool), (L zei (.agg [.int .u8 (L (L za1 [L (L za0 y) 0, L (L za0 y) 1, L (L za0 y) 2, L (L za0 y) 3, L (L za0 y) 4, L (L za0 y) 5, L (L za0 y) 6, L (L za0 y) 7, L (L za0 y) 8, L (L za0 y) 9, L (L za0 y) 10, L (L za0 y) 11, L (L za0 y) 12, L (L za0 y) 13, L (L za0 y) 14, L (L za0 y) 15]) 0), .int .u8 (L (L za1 [L (L za0 y) 0, L (L za0 y) 1, L (L za0 y) 2, L (L za0 y) 3, L (L za0 y) 4, L (L za0 y) 5, L (L za0 y) 6, L (L za0 y) 7, L (L za0 y) 8, L (L za0 y) 9, L (L za0 y) 10, L (L za0 y) 11, L (L za0 y) 12, L (L za0 y) 13, L (L za0 y) 14, L (L za0 y) 15]) 1), .int .u8 (L (L za1 [L (L za0 y) 0, L (L za0 y) 1, L (L za0 y) 2, L (L za0 y) 3, L (L za0 y) 4, L (L za0 y) 5, L (L za0 y) 6, L (L za0 y) 7, L (L za0 y) 8, L (L za0 y) 9, L (L za0 y) 10, L (L za0 y) 11, L (L za0 y) 12, L (L za0 y) 13, L (L za0 y) 14, L (L za0 y) 15]) 2), .int .u8 (L (L za1 [L (L za0 y) 0, L (L za0 y) 1, L (L za0 y) 2, L (L za0 y) 3, L (L za0 y) 4, L (L za0 y) 5, L (L za0 y) 6, L (L za0 y) 7, L (L za0 y) 8, L (L za0 y) 9, L (L za0 y) 10, L (L za0 y) 11, L (L za0 y) 12, L (L za0 y) 13, L (L za0 y) 14, L (L za0 y) 15]) 3), .int .u8 (L (L za1 [L (L za0 y) 0, L (L za0 y) 1, L (L za0 y) 2, L (L za0 y) 3, L (L za0 y) 4, L (L za0 y) 5, L (L za0 y) 6, L (L za0 y) 7, L (L za0 y) 8, L (L za0 y) 9, L (L za0 y) 10, L (L za0 y) 11, L (L za0 y) 12, L (L za0 y) 13, L (L za0 y) 14, L (L za0 y) 15]) 4), .int .u8 (L (L za1 [L (L za0 y) 0, L (L za0 y) 1, L (L za0 y) 2, L (L za0 y) 3, L (L za0 y) 4, L (L za0 y) 5, L (L za0 y) 6, L (L za0 y) 7, L (L za0 y) 8, L (L za0 y) 9, L (L za0 y) 10, L (L za0 y) 11, L (L za0 y) 12, L (L za0 y) 13, L (L za0 y) 14, L (L za0 y) 15]) 5), .int .u8 (L (L za1 [L (L za0 y) 0, L (L za0 y) 1, L (L za0 y) 2, L (L za0 y) 3, L (L za0 y) 4, L (L za0 y) 5, L (L za0 y) 6, L (L za0 y) 7, L (L za0 y) 8, L (L za0 y) 9, L (L za0 y) 10, L (L za0 y) 11, L (L za0 y) 12, L (L za0 y) 13, L (L za0 y) 14, L (L za0 y) 15]) 6), .int .u8 (L (L za1 [L (L za0 y) 0, L (L za0 y) 1, L (L za0 y) 2, L (L za0 y) 3, L (L za0 y) 4, L (L za0 y) 5, L (L za0 y) 6, L (L za0 y) 7, L (L za0 y) 8, L (L za0 y) 9, L (L za0 y) 10, L (L za0 y) 11, L (L za0 y) 12, L (L za0 y) 13, L (L za0 y) 14, L (L za0 y) 15]) 7), .int .u8 (L (L za1 [L (L za0 y) 0, L (L za0 y) 1, L (L za0 y) 2, L (L za0 y) 3, L (L za0 y) 4, L (L za0 y) 5, L (L za0 y) 6, L (L za0 y) 7, L (L za0 y) 8, L (L za0 y) 9, L (L za0 y) 10, L (L za0 y) 11, L (L za0 y) 12, L (L za0 y) 13, L (L za0 y) 14, L (L za0 y) 15]) 8), .int .u8 (L (L za1 [L (L za0 y) 0, L (L za0 y) 1, L (L za0 y) 2, L (L za0 y) 3, L (L za0 y) 4, L (L za0 y) 5, L (L za0 y) 6, L (L za0 y) 7, L (L za0 y) 8, L (L za0 y) 9, L (L za0 y) 10, L (L za0 y) 11, L (L za0 y) 12, L (L za0 y) 13, L (L za0 y) 14, L (L za0 y) 15]) 9), .int .u8 (L (L za1 [L (L za0 y) 0, L (L za0 y) 1, L (L za0 y) 2, L (L za0 y) 3, L (L za0 y) 4, L (L za0 y) 5, L (L za0 y) 6, L (L za0 y) 7, L (L za0 y) 8, L (L za0 y) 9, L (L za0 y) 10, L (L za0 y) 11, L (L za0 y) 12, L (L za0 y) 13, L (L za0 y) 14, L (L za0 y) 15]) 10), .int .u8 (L (L za1 [L (L za0 y) 0, L (L za0 y) 1, L (L za0 y) 2, L (L za0 y) 3, L (L za0 y) 4, L (L za0 y) 5, L (L za0 y) 6, L (L za0 y) 7, L (L za0 y) 8, L (L za0 y) 9, L (L za0 y) 10, L (L za0 y) 11, L (L za0 y) 12, L (L za0 y) 13, L (L za0 y) 14, L (L za0 y) 15]) 11), .int .u8 (L (L za1 [L (L za0 y) 0, L (L za0 y) 1, L (L za0 y) 2, L (L za0 y) 3, L (L za0 y) 4, L (L za0 y) 5, L (L za0 y) 6, L (L za0 y) 7, L (L za0 y) 8, L (L za0 y) 9, L (L za0 y) 10, L (L za0 y) 11, L (L za0 y) 12, L (L za0 y) 13, L (L za0 y) 14, L (L za0 y) 15]) 12), .int .u8 (L (L za1 [L (L za0 y) 0, L (L za0 y) 1, L (L za0 y) 2, L (L za0 y) 3, L (L za0 y) 4, L (L za0 y) 5, L (L za0 y) 6, L (L za0 y) 7, L (L za0 y) 8, L (L za0 y) 9, L (L za0 y) 10, L (L za0 y) 11, L (L za0 y) 12, L (L za0 y) 13, L (L za0 y) 14, L (L za0 y) 15]) 13), .int .u8 (L (L za1 [L (L za0 y) 0, L (L za0 y) 1, L (L za0 y) 2, L (L za0 y) 3, L (L za0 y) 4, L (L za0 y) 5, L (L za0 y) 6, L (L za0 y) 7, L (L za0 y) 8, L (L za0 y) 9, L (L za0 y) 10, L (L za0 y) 11, L (L za0 y) 12, L (L za0 y) 13, L (L za0 y) 14, L (L za0 y) 15]) 14), .int .u8 (L (L za1 [L (L za0 y) 0, L (L za0 y) 1, L (L za0 y) 2, L (L za0 y) 3, L (L za0 y) 4, L (L za0 y) 5, L (L za0 y) 6, L (L za0 y) 7, L (L za0 y) 8, L (L za0 y) 9, L (L za0 y) 10, L (L za0 y) 11, L (L za0 y) 12, L (L za0 y) 13, L (L za0 y) 14, L (L za0 y) 15]) 15), .int .i64 d, .bool h])) = True := by subst hL; exact fun y d h => eq_true (zc9 ⟨y, d, h⟩).1
 have hEta : ∀ y : Le, L (L (L Le.mk (L Le.p y)) (L Le.d y)) (L Le.h y) = y := by subst hL; exact fun y => rfl
 have hMp : ∀ (y : Pr) (d : Int) (h : Bool), L Le.p (L (L (L Le.mk y) d) h) = y := by subst hL; exact fun y d h => rfl
 have hQ0 : ∀ y : Pr, L zar (.agg [.int .u8 (L (L za0 y) 0), .int .u8 (L (L za0 y) 1), .int .u8 (L (L za0 y) 2), .int .u8 (L (L za0 y) 3), .int .u8 (L (L za0 y) 4), .int .u8 (L (L za0 y) 5), .int .u8 (L (L za0 y) 6), .int .u8 (L (L za0 y) 7), .int .u8 (L (L za0 y) 8), .int .u8 (L (L za0 y) 9), .int .u8 (L (L za0 y) 10), .int .u8 (L (L za0 y) 11), .int .u8 (L (L za0 y) 12), .int .u8 (L (L za0 y) 13), .int .u8 (L (L za0 y) 14), .int .u8 (L (L za0 y) 15)]) = y := by subst hL; exact fun y => (zc3 y).2
 have hQo : ∀ y : Pr, (L zd2 (.agg [.int .u8 (L (L za0 y) 0), .int .u8 (L (L za0 y) 1), .int .u8 (L (L za0 y) 2), .int .u8 (L (L za0 y) 3), .int .u8 (L (L za0 y) 4), .int .u8 (L (L za0 y) 5), .int .u8 (L (L za0 y) 6), .int .u8 (L (L za0 y) 7), .int .u8 (L (L za0 y) 8), .int .u8 (L (L za0 y) 9), .int .u8 (L (L za0 y) 10), .int .u8 (L (L za0 y) 11), .int .u8 (L (L za0 y) 12), .int .u8 (L (L za0 y) 13), .int .u8 (L (L za0 y) 14), .int .u8 (L (L za0 y) 15)])) = True := by subst hL; exact fun y => eq_true (zc3 y).1
 have hQ1 : ∀ y : Pr, L zar (.agg [.int .u8 (L (L za1 [L (L za0 y) 0, L (L za0 y) 1, L (L za0 y) 2, L (L za0 y) 3, L (L za0 y) 4, L (L za0 y) 5, L (L za0 y) 6, L (L za0 y) 7, L (L za0 y) 8, L (L za0 y) 9, L (L za0 y) 10, L (L za0 y) 11, L (L za0 y) 12, L (L za0 y) 13, L (L za0 y) 14, L (L za0 y) 15]) 0), .int .u8 (L (L za1 [L (L za0 y) 0, L (L za0 y) 1, L (L za0 y) 2, L (L za0 y) 3, L (L za0 y) 4, L (L za0 y) 5, L (L za0 y) 6, L (L za0 y) 7, L (L za0 y) 8, L (L za0 y) 9, L (L za0 y) 10, L (L za0 y) 11, L (L za0 y) 12, L (L za0 y) 13, L (L za0 y) 14, L (L za0 y) 15]) 1), .int .u8 (L (L za1 [L (L za0 y) 0, L (L za0 y) 1, L (L za0 y) 2, L (L za0 y) 3, L (L za0 y) 4, L (L za0 y) 5, L (L za0 y) 6, L (L za0 y) 7, L (L za0 y) 8, L (L za0 y) 9, L (L za0 y) 10, L (L za0 y) 11, L (L za0 y) 12, L (L za0 y) 13, L (L za0 y) 14, L (L za0 y) 15]) 2), .int .u8 (L (L za1 [L (L za0 y) 0, L (L za0 y) 1, L (L za0 y) 2, L (L za0 y) 3, L (L za0 y) 4, L (L za0 y) 5, L (L za0 y) 6, L (L za0 y) 7, L (L za0 y) 8, L (L za0 y) 9, L (L za0 y) 10, L (L za0 y) 11, L (L za0 y) 12, L (L za0 y) 13, L (L za0 y) 14, L (L za0 y) 15]) 3), .int .u8 (L (L za1 [L (L za0 y) 0, L (L za0 y) 1, L (L za0 y) 2, L (L za0 y) 3, L (L za0 y) 4, L (L za0 y) 5, L (L za0 y) 6, L (L za0 y) 7, L (L za0 y) 8, L (L za0 y) 9, L (L za0 y) 10, L (L za0 y) 11, L (L za0 y) 12, L (L za0 y) 13, L (L za0 y) 14, L (L za0 y) 15]) 4), .int .u8 (L (L za1 [L (L za0 y) 0, L (L za0 y) 1, L (L za0 y) 2, L (L za0 y) 3, L (L za0 y) 4, L (L za0 y) 5, L (L za0 y) 6, L (L za0 y) 7, L (L za0 y) 8, L (L za0 y) 9, L (L za0 y) 10, L (L za0 y) 11, L (L za0 y) 12, L (L za0 y) 13, L (L za0 y) 14, L (L za0 y) 15]) 5), .int .u8 (L (L za1 [L (L za0 y) 0, L (L za0 y) 1, L (L za0 y) 2, L (L za0 y) 3, L (L za0 y) 4, L (L za0 y) 5, L (L za0 y) 6, L (L za0 y) 7, L (L za0 y) 8, L (L za0 y) 9, L (L za0 y) 10, L (L za0 y) 11, L (L za0 y) 12, L (L za0 y) 13, L (L za0 y) 14, L (L za0 y) 15]) 6), .int .u8 (L (L za1 [L (L za0 y) 0, L (L za0 y) 1, L (L za0 y) 2, L (L za0 y) 3, L (L za0 y) 4, L (L za0 y) 5, L (L za0 y) 6, L (L za0 y) 7, L (L za0 y) 8, L (L za0 y) 9, L (L za0 y) 10, L (L za0 y) 11, L (L za0 y) 12, L (L za0 y) 13, L (L za0 y) 14, L (L za0 y) 15]) 7), .int .u8 (L (L za1 [L (L za0 y) 0, L (L za0 y) 1, L (L za0 y) 2, L (L za0 y) 3, L (L za0 y) 4, L (L za0 y) 5, L (L za0 y) 6, L (L za0 y) 7, L (L za0 y) 8, L (L za0 y) 9, L (L za0 y) 10, L (L za0 y) 11, L (L za0 y) 12, L (L za0 y) 13, L (L za0 y) 14, L (L za0 y) 15]) 8), .int .u8 (L (L za1 [L (L za0 y) 0, L (L za0 y) 1, L (L za0 y) 2, L (L za0 y) 3, L (L za0 y) 4, L (L za0 y) 5, L (L za0 y) 6, L (L za0 y) 7, L (L za0 y) 8, L (L za0 y) 9, L (L za0 y) 10, L (L za0 y) 11, L (L za0 y) 12, L (L za0 y) 13, L (L za0 y) 14, L (L za0 y) 15]) 9), .int .u8 (L (L za1 [L (L za0 y) 0, L (L za0 y) 1, L (L za0 y) 2, L (L za0 y) 3, L (L za0 y) 4, L (L za0 y) 5, L (L za0 y) 6, L (L za0 y) 7, L (L za0 y) 8, L (L za0 y) 9, L (L za0 y) 10, L (L za0 y) 11, L (L za0 y) 12, L (L za0 y) 13, L (L za0 y) 14, L (L za0 y) 15]) 10), .int .u8 (L (L za1 [L (L za0 y) 0, L (L za0 y) 1, L (L za0 y) 2, L (L za0 y) 3, L (L za0 y) 4, L (L za0 y) 5, L (L za0 y) 6, L (L za0 y) 7, L (L za0 y) 8, L (L za0 y) 9, L (L za0 y) 10, L (L za0 y) 11, L (L za0 y) 12, L (L za0 y) 13, L (L za0 y) 14, L (L za0 y) 15]) 11), .int .u8 (L (L za1 [L (L za0 y) 0, L (L za0 y) 1, L (L za0 y) 2, L (L za0 y) 3, L (L za0 y) 4, L (L za0 y) 5, L (L za0 y) 6, L (L za0 y) 7, L (L za0 y) 8, L (L za0 y) 9, L (L za0 y) 10, L (L za0 y) 11, L (L za0 y) 12, L (L za0 y) 13, L (L za0 y) 14, L (L za0 y) 15]) 12), .int .u8 (L (L za1 [L (L za0 y) 0, L (L za0 y) 1, L (L za0 y) 2, L (L za0 y) 3, L (L za0 y) 4, L (L za0 y) 5, L (L za0 y) 6, L (L za0 y) 7, L (L za0 y) 8, L (L za0 y) 9, L (L za0 y) 10, L (L za0 y) 11, L (L za0 y) 12, L (L za0 y) 13, L (L za0 y) 14, L (L za0 y) 15]) 13), .int .u8 (L (L za1 [L (L za0 y) 0, L (L za0 y) 1, L (L za0 y) 2, L (L za0 y) 3, L (L za0 y) 4, L (L za0 y) 5, L (L za0 y) 6, L (L za0 y) 7, L (L za0 y) 8, L (L za0 y) 9, L (L za0 y) 10, L (L za0 y) 11, L (L za0 y) 12, L (L za0 y) 13, L (L za0 y) 14, L (L za0 y) 15]) 14), .int .u8 (L (L za1 [L (L za0 y) 0, L (L za0 y) 1, L (L za0 y) 2, L (L za0 y) 3, L (L za0 y) 4, L (L za0 y) 5, L (L za0 y) 6, L (L za0 y) 7, L (L za0 y) 8, L (L za0 y) 9, L (L za0 y) 10, L (L za0 y) 11, L (L za0 y) 12, L (L za0 y) 13, L (L za0 y) 14, L (L za0 y) 15]) 15)]) = y := by subst hL; exact fun y => (zc3 y).2
 have hQ1o : ∀ y : Pr, (L zd2 (.agg [.int .u8 (L (L za1 [L (L za0 y) 0, L (L za0 y) 1, L (L za0 y) 2, L (L za0 y) 3, L (L za0 y) 4, L (L za0 y) 5, L (L za0 y) 6, L (L za0 y) 7, L (L za0 y) 8, L (L za0 y) 9, L (L za0 y) 10, L (L za0 y) 11, L (L za0 y) 12, L (L za0 y) 13, L (L za0 y) 14, L (L za0 y) 15]) 0), .int .u8 (L (L za1 [L (L za0 y) 0, L (L za0 y) 1, L (L za0 y) 2, L (L za0 y) 3, L (L za0 y) 4, L (L za0 y) 5, L (L za0 y) 6, L (L za0 y) 7, L (L za0 y) 8, L (L za0 y) 9, L (L za0 y) 10, L (L za0 y) 11, L (L za0 y) 12, L (L za0 y) 13, L (L za0 y) 14, L (L za0 y) 15]) 1), .int .u8 (L (L za1 [L (L za0 y) 0, L (L za0 y) 1, L (L za0 y) 2, L (L za0 y) 3, L (L za0 y) 4, L (L za0 y) 5, L (L za0 y) 6, L (L za0 y) 7, L (L za0 y) 8, L (L za0 y) 9, L (L za0 y) 10, L (L za0 y) 11, L (L za0 y) 12, L (L za0 y) 13, L (L za0 y) 14, L (L za0 y) 15]) 2), .int .u8 (L (L za1 [L (L za0 y) 0, L (L za0 y) 1, L (L za0 y) 2, L (L za0 y) 3, L (L za0 y) 4, L (L za0 y) 5, L (L za0 y) 6, L (L za0 y) 7, L (L za0 y) 8, L (L za0 y) 9, L (L za0 y) 10, L (L za0 y) 11, L (L za0 y) 12, L (L za0 y) 13, L (L za0 y) 14, L (L za0 y) 15]) 3), .int .u8 (L (L za1 [L (L za0 y) 0, L (L za0 y) 1, L (L za0 y) 2, L (L za0 y) 3, L (L za0 y) 4, L (L za0 y) 5, L (L za0 y) 6, L (L za0 y) 7, L (L za0 y) 8, L (L za0 y) 9, L (L za0 y) 10, L (L za0 y) 11, L (L za0 y) 12, L (L za0 y) 13, L (L za0 y) 14, L (L za0 y) 15]) 4), .int .u8 (L (L za1 [L (L za0 y) 0, L (L za0 y) 1, L (L za0 y) 2, L (L za0 y) 3, L (L za0 y) 4, L (L za0 y) 5, L (L za0 y) 6, L (L za0 y) 7, L (L za0 y) 8, L (L za0 y) 9, L (L za0 y) 10, L (L za0 y) 11, L (L za0 y) 12, L (L za0 y) 13, L (L za0 y) 14, L (L za0 y) 15]) 5), .int .u8 (L (L za1 [L (L za0 y) 0, L (L za0 y) 1, L (L za0 y) 2, L (L za0 y) 3, L (L za0 y) 4, L (L za0 y) 5, L (L za0 y) 6, L (L za0 y) 7, L (L za0 y) 8, L (L za0 y) 9, L (L za0 y) 10, L (L za0 y) 11, L (L za0 y) 12, L (L za0 y) 13, L (L za0 y) 14, L (L za0 y) 15]) 6), .int .u8 (L (L za1 [L (L za0 y) 0, L (L za0 y) 1, L (L za0 y) 2, L (L za0 y) 3, L (L za0 y) 4, L (L za0 y) 5, L (L za0 y) 6, L (L za0 y) 7, L (L za0 y) 8, L (L za0 y) 9, L (L za0 y) 10, L (L za0 y) 11, L (L za0 y) 12, L (L za0 y) 13, L (L za0 y) 14, L (L za0 y) 15]) 7), .int .u8 (L (L za1 [L (L za0 y) 0, L (L za0 y) 1, L (L za0 y) 2, L (L za0 y) 3, L (L za0 y) 4, L (L za0 y) 5, L (L za0 y) 6, L (L za0 y) 7, L (L za0 y) 8, L (L za0 y) 9, L (L za0 y) 10, L (L za0 y) 11, L (L za0 y) 12, L (L za0 y) 13, L (L za0 y) 14, L (L za0 y) 15]) 8), .int .u8 (L (L za1 [L (L za0 y) 0, L (L za0 y) 1, L (L za0 y) 2, L (L za0 y) 3, L (L za0 y) 4, L (L za0 y) 5, L (L za0 y) 6, L (L za0 y) 7, L (L za0 y) 8, L (L za0 y) 9, L (L za0 y) 10, L (L za0 y) 11, L (L za0 y) 12, L (L za0 y) 13, L (L za0 y) 14, L (L za0 y) 15]) 9), .int .u8 (L (L za1 [L (L za0 y) 0, L (L za0 y) 1, L (L za0 y) 2, L (L za0 y) 3, L (L za0 y) 4, L (L za0 y) 5, L (L za0 y) 6, L (L za0 y) 7, L (L za0 y) 8, L (L za0 y) 9, L (L za0 y) 10, L (L za0 y) 11, L (L za0 y) 12, L (L za0 y) 13, L (L za0 y) 14, L (L za0 y) 15]) 10), .int .u8 (L (L za1 [L (L za0 y) 0, L (L za0 y) 1, L (L za0 y) 2, L (L za0 y) 3, L (L za0 y) 4, L (L za0 y) 5, L (L za0 y) 6, L (L za0 y) 7, L (L za0 y) 8, L (L za0 y) 9, L (L za0 y) 10, L (L za0 y) 11, L (L za0 y) 12, L (L za0 y) 13, L (L za0 y) 14, L (L za0 y) 15]) 11), .int .u8 (L (L za1 [L (L za0 y) 0, L (L za0 y) 1, L (L za0 y) 2, L (L za0 y) 3, L (L za0 y) 4, L (L za0 y) 5, L (L za0 y) 6, L (L za0 y) 7, L (L za0 y) 8, L (L za0 y) 9, L (L za0 y) 10, L (L za0 y) 11, L (L za0 y) 12, L (L za0 y) 13, L (L za0 y) 14, L (L za0 y) 15]) 12), .int .u8 (L (L za1 [L (L za0 y) 0, L (L za0 y) 1, L (L za0 y) 2, L (L za0 y) 3, L (L za0 y) 4, L (L za0 y) 5, L (L za0 y) 6, L (L za0 y) 7, L (L za0 y) 8, L (L za0 y) 9, L (L za0 y) 10, L (L za0 y) 11, L (L za0 y) 12, L (L za0 y) 13, L (L za0 y) 14, L (L za0 y) 15]) 13), .int .u8 (L (L za1 [L (L za0 y) 0, L (L za0 y) 1, L (L za0 y) 2, L (L za0 y) 3, L (L za0 y) 4, L (L za0 y) 5, L (L za0 y) 6, L (L za0 y) 7, L (L za0 y) 8, L (L za0 y) 9, L (L za0 y) 10, L (L za0 y) 11, L (L za0 y) 12, L (L za0 y) 13, L (L za0 y) 14, L (L za0 y) 15]) 14), .int .u8 (L (L za1 [L (L za0 y) 0, L (L za0 y) 1, L (L za0 y) 2, L (L za0 y) 3, L (L za0 y) 4, L (L za0 y) 5, L (L za0 y) 6, L (L za0 y) 7, L (L za0 y) 8, L (L za0 y) 9, L (L za0 y) 10, L (L za0 y) 11, L (L za0 y) 12, L (L za0 y) 13, L (L za0 y) 14, L (L za0 y) 15]) 15)])) = True := by subst hL; exact fun y => eq_true (zc3 y).1
 have hG : ∀ y : List Le, L zak (.lst 18 (L zfl y) (fun i => leC L (L (L zao y) i))) = y := by subst hL; exact fun y => zoh y
 have hGo : ∀ y : List Le, (L zfa (.lst 18 (L zfl y) (fun i => leC L (L (L zao y) i)))) = True := by subst hL; exact fun y => eq_true (zos y)
 have h2 : ∀ a b : Int, L zar (.agg [.int .u8 a, .int .u8 b, .int .u8 0, .int .u8 0, .int .u8 0, .int .u8 0, .int .u8 0, .int .u8 0, .int .u8 0, .int .u8 0, .int .u8 0, .int .u8 0, .int .u8 0, .int .u8 0, .int .u8 0, .int .u8 0]) = L (L pr2 a) b := by subst hL; exact fun a b => (yfi a b).2
 have h2o : ∀ a b : Int, (L zd2 (.agg [.int .u8 a, .int .u8 b, .int .u8 0, .int .u8 0, .int .u8 0, .int .u8 0, .int .u8 0, .int .u8 0, .int .u8 0, .int .u8 0, .int .u8 0, .int .u8 0, .int .u8 0, .int .u8 0, .int .u8 0, .int .u8 0])) = True := by subst hL; exact fun a b => eq_true (yfi a b).1
 have h2n : ∀ a b : Int, L zar (.agg [.int .u8 (L (L za1 [a, b, 0, 0, 0, 0, 0, 0, 0, 0, 0, 0, 0, 0, 0, 0]) 0), .int .u8 (L (L za1 [a, b, 0, 0, 0, 0, 0, 0, 0, 0, 0, 0, 0, 0, 0, 0]) 1), .int .u8 (L (L za1 [a, b, 0, 0, 0, 0, 0, 0, 0, 0, 0, 0, 0, 0, 0, 0]) 2), .int .u8 (L (L za1 [a, b, 0, 0, 0, 0, 0, 0, 0, 0, 0, 0, 0, 0, 0, 0]) 3), .int .u8 (L (L za1 [a, b, 0, 0, 0, 0, 0, 0, 0, 0, 0, 0, 0, 0, 0, 0]) 4), .int .u8 (L (L za1 [a, b, 0, 0, 0, 0, 0, 0, 0, 0, 0, 0, 0, 0, 0, 0]) 5), .int .u8 (L (L za1 [a, b, 0, 0, 0, 0, 0, 0, 0, 0, 0, 0, 0, 0, 0, 0]) 6), .int .u8 (L (L za1 [a, b, 0, 0, 0, 0, 0, 0, 0, 0, 0, 0, 0, 0, 0, 0]) 7), .int .u8 (L (L za1 [a, b, 0, 0, 0, 0, 0, 0, 0, 0, 0, 0, 0, 0, 0, 0]) 8), .int .u8 (L (L za1 [a, b, 0, 0, 0, 0, 0, 0, 0, 0, 0, 0, 0, 0, 0, 0]) 9), .int .u8 (L (L za1 [a, b, 0, 0, 0, 0, 0, 0, 0, 0, 0, 0, 0, 0, 0, 0]) 10), .int .u8 (L (L za1 [a, b, 0, 0, 0, 0, 0, 0, 0, 0, 0, 0, 0, 0, 0, 0]) 11), .int .u8 (L (L za1 [a, b, 0, 0, 0, 0, 0, 0, 0, 0, 0, 0, 0, 0, 0, 0]) 12), .int .u8 (L (L za1 [a, b, 0, 0, 0, 0, 0, 0, 0, 0, 0, 0, 0, 0, 0, 0]) 13), .int .u8 (L (L za1 [a, b, 0, 0, 0, 0, 0, 0, 0, 0, 0, 0, 0, 0, 0, 0]) 14), .int .u8 (L (L za1 [a, b, 0, 0, 0, 0, 0, 0, 0, 0, 0, 0, 0, 0, 0, 0]) 15)]) = L (L pr2 a) b := by subst hL; exact fun a b => (yfi a b).2
 have h2no : ∀ a b : Int, (L zd2 (.agg [.int .u8 (L (L za1 [a, b, 0, 0, 0, 0, 0, 0, 0, 0, 0, 0, 0, 0, 0, 0]) 0), .int .u8 (L (L za1 [a, b, 0, 0, 0, 0, 0, 0, 0, 0, 0, 0, 0, 0, 0, 0]) 1), .int .u8 (L (L za1 [a, b, 0, 0, 0, 0, 0, 0, 0, 0, 0, 0, 0, 0, 0, 0]) 2), .int .u8 (L (L za1 [a, b, 0, 0, 0, 0, 0, 0, 0, 0, 0, 0, 0, 0, 0, 0]) 3), .int .u8 (L (L za1 [a, b, 0, 0, 0, 0, 0, 0, 0, 0, 0, 0, 0, 0, 0, 0]) 4), .int .u8 (L (L za1 [a, b, 0, 0, 0, 0, 0, 0, 0, 0, 0, 0, 0, 0, 0, 0]) 5), .int .u8 (L (L za1 [a, b, 0, 0, 0, 0, 0, 0, 0, 0, 0, 0, 0, 0, 0, 0]) 6), .int .u8 (L (L za1 [a, b, 0, 0, 0, 0, 0, 0, 0, 0, 0, 0, 0, 0, 0, 0]) 7), .int .u8 (L (L za1 [a, b, 0, 0, 0, 0, 0, 0, 0, 0, 0, 0, 0, 0, 0, 0]) 8), .int .u8 (L (L za1 [a, b, 0, 0, 0, 0, 0, 0, 0, 0, 0, 0, 0, 0, 0, 0]) 9), .int .u8 (L (L za1 [a, b, 0, 0, 0, 0, 0, 0, 0, 0, 0, 0, 0, 0, 0, 0]) 10), .int .u8 (L (L za1 [a, b, 0, 0, 0, 0, 0, 0, 0, 0, 0, 0, 0, 0, 0, 0]) 11), .int .u8 (L (L za1 [a, b, 0, 0, 0, 0, 0, 0, 0, 0, 0, 0, 0, 0, 0, 0]) 12), .int .u8 (L (L za1 [a, b, 0, 0, 0, 0, 0, 0, 0, 0, 0, 0, 0, 0, 0, 0]) 13), .int .u8 (L (L za1 [a, b, 0, 0, 0, 0, 0, 0, 0, 0, 0, 0, 0, 0, 0, 0]) 14), .int .u8 (L (L za1 [a, b, 0, 0, 0, 0, 0, 0, 0, 0, 0, 0, 0, 0, 0, 0]) 15)])) = True := by subst hL; exact fun a b => eq_true (yfi a b).1
 (cbv; try simp only [syT, true_and, and_true])
 refine ⟨fun h => ?_, fun _ => ⟨fun h1 => ?_, fun h1 => ⟨⟨0, ?_⟩, fun i hi => ?_⟩⟩⟩
 · subst hL; cases h
 · subst hL; subst hQ; rw [zbv]
 · (cbv; try simp only [syT, true_and, and_true])
   subst hL
   exact ⟨rfl, rfl, Nat.zero_le _⟩
 · have hi2 : i <= 64 := by
     have h := hi
     rw [hL] at h
     exact h
   clear hi
   have hk2 : fuC c := by
     rw [hL] at h1
     have h1 : ilt k 2 = false := h1
     rw [zia] at h1
     rw [hc]
     refine ⟨?_, ?_, h1, by show k <= 255; omega⟩
     · show 0 <= f.tmod 70
       rw [Int.tmod_eq_emod_of_nonneg hf.1]; omega
     · show f.tmod 70 < 70
       rw [Int.tmod_eq_emod_of_nonneg hf.1]; omega
   have hwf : IntKind.i64.wrap f = f := by rw [zdj]; omega
   have hwk : IntKind.i64.wrap k = k := by rw [zdj]; omega
   obtain ⟨n0, hn0⟩ : ∃ n : Int, n = fuN c i := ⟨_, rfl⟩
   obtain ⟨i1, hi1⟩ : ∃ i1 : Nat, i1 = i + 1 := ⟨_, rfl⟩
   (cbv; try simp only [syT, true_and, and_true])
   refine ⟨fun hlt => ⟨?_, ⟨fun h3 => ⟨n0, ?_⟩, fun h3 => ⟨n0, ?_⟩⟩, fun n hn => ?_⟩, fun hge => ?_⟩
   · subst hL; rfl
   · (cbv; try simp only [syT, true_and, and_true])
     subst hL
     have h3 : ieq (zab i) ((IntKind.i64.wrap f).tmod 70) = true := h3
     rw [ymp, hwf, zaw] at h3
     refine ⟨fun _ _ _ _ => trivial, ?_, ?_⟩
     · rw [hn0, fuN, if_pos (by rw [hc]; exact h3)]
     · exact hn0
   · (cbv; try simp only [syT, true_and, and_true])
     subst hL
     have h3 : ieq (zab i) ((IntKind.i64.wrap f).tmod 70) = false := h3
     rw [ymq, hwf, zaw] at h3
     refine ⟨fun _ _ _ _ => trivial, ?_, ?_⟩
     · show IntKind.i64.wrap k = n0
       rw [hn0, fuN, if_neg (by rw [hc]; exact h3), hwk, hc]
     · exact hn0
   · have hn2 : n = fuN c i := by
       have h := hn
       rw [hL] at h
       exact h
     clear hn
     (cbv; try simp only [syT, true_and, and_true])
     refine ⟨⟨0, ?_⟩, fun j hj => ?_⟩
     · (cbv; try simp only [syT, true_and, and_true])
       subst hL
       obtain ⟨q1, q2⟩ := zph hk2 i
       exact ⟨⟨rfl, fun _ _ _ _ => rfl⟩, rfl, by show ((0 : Nat) : Int) <= n; omega⟩
     · have hj2 : (j : Int) <= n := by
         have h := hj
         rw [hL] at h
         exact h
       clear hj
       obtain ⟨q1, q2⟩ := zph hk2 i
       have hi64 : i < 64 := by
         rw [hL] at hlt
         have h : ilt (zab i) 64 = true := hlt
         rw [ze8, zaw] at h
         omega
       have hwi : IntKind.u8.wrap (i : Int) = i := by rw [w_u8]; omega
       have hlen := ymv c i j
       obtain ⟨j1, hj1⟩ : ∃ j1 : Nat, j1 = j + 1 := ⟨_, rfl⟩
       have hck : c.2 = k := by rw [hc]
       (cbv; try simp only [syT, true_and, and_true])
       simp only [h2, h2o, h2n, h2no]
       simp only [hE, hEo, hF, hFo, hEta, hMp, hQ1, hQ1o, hQ0, hQo, hG, hGo, true_and]
       refine ⟨fun h4 => ⟨?_, j1, ?_⟩, fun h4 => ⟨i1, ?_⟩⟩
       · subst hL
         have h4 : ilt (zab j) n = true := h4
         rw [ze8, zaw, hn2] at h4
         refine ⟨show (fuL c i j).length <= 1000000 by omega, (zzs hk2 hi64 h4).2.2, ?_⟩
         show zgx (pr2 (IntKind.u8.wrap (i : Int)) 1)
         rw [hwi]
         exact zk4 ⟨Int.natCast_nonneg _, Int.lt_trans (Int.ofNat_lt.2 hi64) (by decide)⟩ (by omega)
       · (cbv; try simp only [syT, true_and, and_true])
         subst hL
         have h4 : ilt (zab j) n = true := h4
         rw [ze8, zaw, hn2] at h4
         have e : ldD (fuL c i j) (pr2 (IntKind.u8.wrap (i : Int)) 1, IntKind.i64.wrap k) = fuL c i j1 := by
           rw [hwi, hwk, hj1, <- (zzs hk2 hi64 h4).2.1, hck]; rfl
         refine ⟨⟨congrArg zfl e, fun q r _ _ => congrArg (fun l => leC std (zao l q) r) e⟩, ?_, ?_, ?_⟩
         · show zce .i64 (zab j) 1 = zab j1
           unfold zce zab
           rw [zdj]; omega
         · show (j1 : Int) <= n
           omega
         · show (n - (j1 : Int)).toNat < (n - (j : Int)).toNat
           omega
       · (cbv; try simp only [syT, true_and, and_true])
         subst hL
         have h4 : ilt (zab j) n = false := h4
         rw [zia, zaw] at h4
         have e : fuL c i j = fuL c i1 0 := by
           rw [hi1]; exact yj8 hk2 (by rw [<- hn2]; exact Int.le_antisymm hj2 h4)
         refine ⟨⟨congrArg zfl e, fun q r _ _ => congrArg (fun l => leC std (zao l q) r) e⟩, ?_, ?_, ?_⟩
         · show zce .i64 (zab i) 1 = zab i1
           unfold zce zab
           rw [zdj]; omega
         · show i1 <= 64
           omega
         · show 64 - i1 < 64 - i
           omega
   · have hi64 : i = 64 := by
       rw [hL] at hge
       have h : ilt (zab i) 64 = false := hge
       rw [zia, zaw] at h
       omega
     subst hi64
     obtain ⟨f1, f2, f3, f4⟩ := zr8 hk2
     have hq : zgx fuQ := zk4 (by omega) (by omega)
     have hck : c.2 = k := by rw [hc]
     have hcf : c.1 = f.tmod 70 := by rw [hc]
     (cbv; try simp only [syT, true_and, and_true])
     simp only [h2, h2o, h2n, h2no]
     simp only [hE, hEo, hF, hFo, hEta, hMp, hQ1, hQ1o, hQ0, hQo, hG, hGo, true_and]
     subst hL; subst hQ
     refine ⟨⟨show (fuL c 64 0).length <= 1000000 by omega, f1, hq⟩, rfl, fun h5 => ?_, fun h5 => ⟨rfl, ?_⟩⟩
     · have h5 : ile 64 ((IntKind.i64.wrap f).tmod 70) = true := h5
       rw [ye7, hwf, <- hcf] at h5
       obtain ⟨g1, g2⟩ := yj7 hk2 h5
       have e1 : ldE (fuL c 64 0) (pr2 200 0, IntKind.i64.wrap k) = 17 := by rw [hwk, <- hck]; exact g1
       have e2 : ldD (fuL c 64 0) (pr2 200 0, IntKind.i64.wrap k) = [] := by rw [hwk, <- hck]; exact g2
       refine ⟨fun h6 => ⟨?_, fun h7 => ⟨show (fuL c 64 0).length <= 1000000 by omega, ?_⟩, fun h7 => ?_⟩, fun h6 => ?_⟩
       · show zdz (ldD (fuL c 64 0) (pr2 200 0, IntKind.i64.wrap k))
         rw [e2]; exact Nat.zero_le _
       · rw [zbv]
         show ieq (zab (fuL c 64 0).length) 64 = true
         rw [f2]; rfl
       · have h7 : ieq (zab (ldD (fuL c 64 0) (pr2 200 0, IntKind.i64.wrap k)).length) 0 = false := h7
         rw [e2] at h7; cases h7
       · have h6 : ieq (ldE (fuL c 64 0) (pr2 200 0, IntKind.i64.wrap k)) 17 = false := h6
         rw [e1] at h6; cases h6
     · have h5 : ile 64 ((IntKind.i64.wrap f).tmod 70) = false := h5
       rw [yiw, hwf, <- hcf] at h5
       obtain ⟨g1, g2, g3, g4, g5⟩ := ymu hk2 h5
       have e1 : ldE (fuL c 64 0) (pr2 200 0, IntKind.i64.wrap k) = 0 := by rw [hwk, <- hck]; exact g1
       have e2 : ldD (fuL c 64 0) (pr2 200 0, IntKind.i64.wrap k) = zbq (fuL c 64 0) fuQ c.2 := by rw [hwk, <- hck]; rfl
       have l1 : zdz (ldD (fuL c 64 0) (pr2 200 0, IntKind.i64.wrap k)) := by
         rw [e2]
         show (zbq (fuL c 64 0) fuQ c.2).length <= 1000000
         rw [g3]; decide
       have l2 : zde (ldD (fuL c 64 0) (pr2 200 0, IntKind.i64.wrap k)) := by rw [e2]; exact g2
       have l3 : ieq (zab (zfl (ldD (fuL c 64 0) (pr2 200 0, IntKind.i64.wrap k)))) 64 = true := by
         rw [e2, show zfl (zbq (fuL c 64 0) fuQ c.2) = 64 from g3]; rfl
       have l4 : ieq (zbo (ldD (fuL c 64 0) (pr2 200 0, IntKind.i64.wrap k)) (pr2 (f.tmod 70) 1)).d 0 = true := by
         rw [e2, <- hcf, g4]; rfl
       have l5 : ieq (zbo (ldD (fuL c 64 0) (pr2 200 0, IntKind.i64.wrap k)) (pr2 200 0)).d 1 = true := by
         rw [e2, show (zbo (zbq (fuL c 64 0) fuQ c.2) (pr2 200 0)).d = 1 from g5]; rfl
       have hp1 : zgx (pr2 (f.tmod 70) 1) := by
         have := hk2.1
         have := hk2.2.1
         exact zk4 (by omega) (by omega)
       refine ⟨fun _ => ⟨l1, fun _ => ⟨⟨l1, l2, hp1⟩, fun _ => ⟨⟨l1, l2, hq⟩, ?_⟩, fun h => ?_⟩, fun h => ?_⟩, fun h => ?_⟩
       · rw [zbv]; exact l5
       · exact absurd (l4.symm.trans h) (by decide)
       · exact absurd (l3.symm.trans h) (by decide)
       · have h : ieq (ldE (fuL c 64 0) (pr2 200 0, IntKind.i64.wrap k)) 0 = false := h
         rw [e1] at h; cases h
theorem law_LedgerFull (f : Int) (hf : (Lit.int .u8 f).wf = true) (k : Int) (hk : (Lit.int .u8 k).wf = true) : zac Tryz.prog 3 [.int .u8 f, .int .u8 k] (.bool true) :=
 yj6 f k (by have := bounds_u8 hf; omega) (by have := bounds_u8 hk; omega)
end Sy
end Go.Proofs.YtlphgephdhadhaaGreat
