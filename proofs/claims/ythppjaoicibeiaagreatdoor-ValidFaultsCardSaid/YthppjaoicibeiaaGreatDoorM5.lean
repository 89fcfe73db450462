/-Chapter 7 (codec): writings. Chapter 7 (codec): values made, put; the chapter's example. Chapter 7 (codec), its law: values made of nodes; and what stands between these and the texts behind.-/
import Derived.Test.YthppjaoicibeiaaGreatDoorM4
namespace Go.Proofs.YthppjaoicibeiaaGreatDoor
namespace Sy
open Go Go.RowKit
set_option maxRecDepth 100000
set_option linter.unusedSimpArgs false
set_option linter.unusedVariables false
theorem zmz : ∀ (k n : Nat), n < 128 ^ (k + 1) -> (zdt n).length <= k + 1
 | 0, n, h => by rw [zbb (by omega)]; simp
 | k + 1, n, h => by
   by_cases h1 : n < 128
   · rw [zbb h1]; simp
   · rw [zfa (by omega), List.length_cons]
     have := zmz k (n / 128) (by rw [Nat.div_lt_iff_lt_mul (by omega)]; rw [Nat.pow_succ] at h; exact h)
     omega
theorem zdc {n : Int} (h : zbu n) : (zas n).length <= 10 := zmz 9 n.toNat (by
 have := h.2
 have := h.1
 rw [show (128 : Nat) ^ (9 + 1) = 1180591620717411303424 from by decide]
 omega)
theorem zh5 (a : Int) : zbe 1 (fun i => (AV.int .u8 (zdf [a] (0 + i))).toI) = [UInt8.ofNat a.toNat] := rfl
def yv0 (n x : Int) (p : List UInt8) : Prop := zbu x /\ p ++ zas x = zas n
def rshA (L : zaa) (n : Int) : Nat -> St -> Option Ann := fun id s => match id with
 | 0 => some ⟨Int × List UInt8, fun x => [(0, .int .u64 x.1), (3, .str x.2)], fun i => [], [], [],
     fun x => L3 L yv0 n x.1 x.2, fun x => L Int.toNat x.1⟩
 | _ => none
def zoc (L : zaa) : zbg := (185, fun xs => match xs with | [.int .u64 n] => some (L zbu n, .str (L zas n)) | _ => none)
theorem zwc {x : Int} (h : zbu x) (hx : 127 < x) : zas x = UInt8.ofNat (x % 128 + 128).toNat :: zas (x / 128) := by
 have := h.1
 unfold zas
 rw [zfa (by omega)]
 congr 1
 · congr 1; omega
 · congr 1; omega
theorem zjv {x : Int} (h : zbu x) (hx : x <= 127) : zas x = [UInt8.ofNat x.toNat] := by
 have := h.1
 unfold zas
 exact zbb (by omega)
theorem zs8 : zaz Tryz.prog (zoc std) := by
 intro xs p r h hp
 unfold zoc at h
 simp only at h
 split at h
 rotate_left
 · cases h
 rename_i n
 cases h
 have hn : zbu n := hp
 have hl := zdc hn
 refine zac (T := tt) (S := noS) (lo := fun L => rshA L n) (lb := noA) 5 (fn := Tryz.f185) rfl rfl (by kernel_rfl) (by kernel_rfl) rfl zab (zbh _) (by kernel_rfl) ?_
 intro L P' Q' hL hP hQ
 (cbv; try simp only [syT, true_and, and_true])
 refine ⟨⟨(n, []), ?_⟩, fun x hx => ?_⟩
 · (cbv; try simp only [syT, true_and, and_true])
   (subst hL; subst hQ; simp only [L2, L3, std] at *; try simp only [syS, reduceCtorEq, Int.reduceToNat, Int.reduceAdd, Int.reduceSub] at *)
   exact ⟨hn, rfl⟩
 · cbv at hx
   obtain ⟨x, pre⟩ := x
   (cbv; try simp only [syT, true_and, and_true])
   obtain ⟨x', hx'⟩ : ∃ x', x' = x / 128 := ⟨_, rfl⟩
   obtain ⟨p', hp'⟩ : ∃ p', p' = pre ++ [UInt8.ofNat (x % 128 + 128).toNat] := ⟨_, rfl⟩
   refine ⟨fun h => ⟨?_, ?_, ?_, ?_, ⟨(x', p'), ?_⟩⟩, fun h => ⟨?_, ?_, ?_⟩⟩
   · (subst hL; subst hQ; simp only [L2, L3, std] at *; try simp only [syS, reduceCtorEq, Int.reduceToNat, Int.reduceAdd, Int.reduceSub] at *)
     omega
   · (subst hL; subst hQ; simp only [L2, L3, std] at *; try simp only [syS, reduceCtorEq, Int.reduceToNat, Int.reduceAdd, Int.reduceSub] at *)
     exact ⟨Nat.le_refl _, fun i hi => ⟨_, rfl⟩⟩
   · (subst hL; subst hQ; simp only [L2, L3, std] at *; try simp only [syS, reduceCtorEq, Int.reduceToNat, Int.reduceAdd, Int.reduceSub] at *)
     rw [zh5]
     have := congrArg List.length hx.2
     rw [List.length_append] at this
     simp; omega
   · (subst hL; subst hQ; simp only [L2, L3, std] at *; try simp only [syS, reduceCtorEq, Int.reduceToNat, Int.reduceAdd, Int.reduceSub] at *)
     omega
   · (cbv; try simp only [syT, true_and, and_true])
     (subst hL; subst hQ; simp only [L2, L3, std] at *; try simp only [syS, reduceCtorEq, Int.reduceToNat, Int.reduceAdd, Int.reduceSub] at *)
     rw [zh5]
     have h0 := hx.1.1
     have h1 := hx.1.2
     have e1 : x.tmod 128 = x % 128 := Int.tmod_eq_emod_of_nonneg h0
     have e2 : x.tdiv 128 = x / 128 := Int.tdiv_eq_ediv_of_nonneg h0
     have e3 := hx.2
     rw [zwc hx.1 h] at e3
     refine ⟨?_, ?_, ⟨⟨by omega, by omega⟩, ?_⟩, by omega⟩
     · have e4 : (x % 128 + 128) % 18446744073709551616 % 256 = x % 128 + 128 := by omega
       rw [hp', e1, e4]
     · rw [ypj, yew, e2, hx']
       exact Int.emod_eq_of_lt (by omega) (by omega)
     · rw [hp', hx', List.append_assoc]; exact e3
   · (subst hL; subst hQ; simp only [L2, L3, std] at *; try simp only [syS, reduceCtorEq, Int.reduceToNat, Int.reduceAdd, Int.reduceSub] at *)
     exact ⟨Nat.le_refl _, fun i hi => ⟨_, rfl⟩⟩
   · (subst hL; subst hQ; simp only [L2, L3, std] at *; try simp only [syS, reduceCtorEq, Int.reduceToNat, Int.reduceAdd, Int.reduceSub] at *)
     rw [zh5]
     have := congrArg List.length hx.2
     rw [List.length_append] at this
     have := (zjv hx.1 h)
     simp; omega
   · (subst hL; subst hQ; simp only [L2, L3, std] at *; try simp only [syS, reduceCtorEq, Int.reduceToNat, Int.reduceAdd, Int.reduceSub] at *)
     rw [zh5, <- hx.2, zjv hx.1 h]
     have h0 := hx.1.1
     congr 3; omega
mutual
def wfV : CV -> Prop
 | .mk _ n s l => zbu n /\ s.length <= 9223372036854775807 /\ zu9 l
def zu9 : List CV -> Prop
 | [] => True
 | v :: l => wfV v /\ zu9 l
end
theorem yiq : ∀ {l : List CV} {i : Nat}, zu9 l -> i < l.length -> wfV (zdo l i)
 | [], i, _, h => by simp at h
 | v :: l, 0, w, _ => by rw [zu9] at w; exact w.1
 | v :: l, i + 1, w, h => by rw [zu9] at w; exact yiq (l := l) w.2 (by simpa using h)
theorem zha (l : List CV) : ∀ i, (zf8 l i).length <= (zb2 l).length := by
 intro i
 have := zj9 (l.take i) (l.drop i)
 rw [List.take_append_drop] at this
 rw [this, List.length_append, zf8]; omega
theorem zaj (k n : Int) (s : List UInt8) (l : List CV) : zbr (.mk k n s l) = zgb k ++ if k = 1 then zas n else if k = 2 then zas s.length ++ s else zas l.length ++ zb2 l := by rw [zbr]
def zs0 (v : CV) : Prop := wfV v /\ (zbr v).length <= 90000000
theorem zo0 {k n : Int} {s : List UInt8} {l : List CV} : zs0 (.mk k n s l) = ((zbu n /\ s.length <= 9223372036854775807 /\ zu9 l) /\ (zbr (.mk k n s l)).length <= 90000000) := by
 unfold zs0; rw [wfV]
theorem zf7 {x : Int} (h : 0 <= x) (h1 : x < 18446744073709551616) : x % 18446744073709551616 = x := Int.emod_eq_of_lt h h1
theorem zgm {k n : Int} {s : List UInt8} {l : List CV} (h : wfV (.mk k n s l)) : (s.length : Int) % 18446744073709551616 = s.length := by
 rw [wfV] at h
 exact zf7 (by omega) (by omega)
theorem zh4 {N : Nat} {k n : Int} {s : List UInt8} {l : List CV} (h : zk3 (N + 1) (.mk k n s l)) : zbu ((l.length : Nat) : Int) := by
 rw [zaf] at h
 have := zdp l
 have h1 := h.1.1
 have h2 := h.1.2
 exact ⟨by omega, by omega⟩
theorem zfv {N : Nat} {k n : Int} {s : List UInt8} {l : List CV} (h : zk3 (N + 1) (.mk k n s l)) : ((lenL l : Nat) : Int) % 18446744073709551616 = ((l.length : Nat) : Int) := by
 have := zh4 h
 exact zf7 this.1 this.2
theorem zzj {k n : Int} {s : List UInt8} {l : List CV} (h : zs0 (.mk k n s l)) (h1 : k ≠ 1) (h2 : k ≠ 2) {i : Nat} (hi : i < l.length) : zs0 (zdo l i) := by
 rw [zo0] at h
 refine ⟨yiq h.1.2.2 hi, ?_⟩
 have h3 := h.2
 have h4 := zch hi
 have h5 := zha l (i + 1)
 rw [h4, List.length_append] at h5
 rw [zaj, if_neg h1, if_neg h2] at h3
 simp only [List.length_append] at h3
 omega
def zn2 (k : Int) (l : List CV) (i : Nat) : List UInt8 := zgb k ++ zas l.length ++ zf8 l i
def yq6 (L : zaa) (k : Int) (l : List CV) : Nat -> St -> Option Ann := fun id s => match id with
 | 0 => some ⟨Nat, fun i => [(42, .int .i64 (L zav i)), (3, .str (L3 L zn2 k l i))], fun i => [], [40, 41], [],
     fun i => L2 L (fun (l : List CV) i => i <= l.length) l i, fun i => L2 L (fun (l : List CV) (i : Nat) => l.length - i) l i⟩
 | _ => none
def zl7 (N : Nat) (L : zaa) : zbg := (150, fun xs => match xs with
 | [.agg [.int .i64 k, .int .u64 n, .str s, x]] => some (L okL x /\ L2 L zk3 N (mkV L k n s x) /\ L zs0 (mkV L k n s x), .str (L zbr (mkV L k n s x)))
 | _ => none)
theorem zws : ∀ N, zaz Tryz.prog (zl7 N std) := by
 intro N
 induction N with
 | zero =>
   intro xs p r h hp
   unfold zl7 at h
   simp only at h
   split at h
   · rename_i k n s x
     cases h
     have h1 : sizeC (mkV std k n s x) <= 0 := hp.2.1.1
     have := zcz (mkV std k n s x)
     omega
   · cases h
 | succ N ih =>
   intro xs p r h hp
   unfold zl7 at h
   simp only at h
   split at h
   rotate_left
   · cases h
   rename_i k n s x
   cases h
   obtain ⟨ho, hz, hw⟩ := hp
   refine yk0 ho ?_
   rw [show mkV std k n s x = .mk k n s (rdL x) from rfl] at hz hw |-
   generalize rdL x = l at hz hw |-
   have hz : zk3 (N + 1) (.mk k n s l) := hz
   have hw : zs0 (.mk k n s l) := hw
   refine za2 (T := tt) (S := fun L => zao [zoc L, zl7 N L]) (lo := fun L => yq6 L k l) (lb := noA) 5 (fn := Tryz.f150) (xs := fun L => [.agg [.int .i64 k, .int .u64 n, .str s, cvL L l]]) rfl rfl (by kernel_rfl) (by kernel_rfl) rfl zab
     (za3 ⟨zs8, ih, trivial⟩) (by kernel_rfl) ?_
   intro L P' Q' hL hP hQ
   (cbv; try simp only [syT, true_and, and_true])
   refine ⟨?_, fun h1 => ⟨?_, ?_, ?_⟩, fun h1 => ⟨fun h2 => ⟨?_, ?_, ?_, ?_⟩, fun h2 => ⟨?_, ?_, ⟨0, ?_⟩, fun i hi => ?_⟩⟩⟩
   · (subst hL; subst hQ; simp only [L2, L3, std] at *; try simp only [syS, reduceCtorEq, Int.reduceToNat, Int.reduceAdd, Int.reduceSub] at *)
     exact ⟨Nat.le_refl _, fun i hi => ⟨_, rfl⟩⟩
   · (subst hL; subst hQ; simp only [L2, L3, std] at *; try simp only [syS, reduceCtorEq, Int.reduceToNat, Int.reduceAdd, Int.reduceSub] at *)
     rw [zo0] at hw
     exact hw.1.1
   · (subst hL; subst hQ; simp only [L2, L3, std] at *; try simp only [syS, reduceCtorEq, Int.reduceToNat, Int.reduceAdd, Int.reduceSub] at *)
     rw [zh5]
     rw [zo0] at hw
     have := zdc hw.1.1
     simp; omega
   · (subst hL; subst hQ; simp only [L2, L3, std] at *; try simp only [syS, reduceCtorEq, Int.reduceToNat, Int.reduceAdd, Int.reduceSub] at *)
     rw [zaj, if_pos h1, zh5]; rfl
   · (subst hL; subst hQ; simp only [L2, L3, std] at *; try simp only [syS, reduceCtorEq, Int.reduceToNat, Int.reduceAdd, Int.reduceSub] at *)
     rw [zo0] at hw
     rw [zf7 (by omega) (by omega)]
     exact ⟨by omega, by omega⟩
   · (subst hL; subst hQ; simp only [L2, L3, std] at *; try simp only [syS, reduceCtorEq, Int.reduceToNat, Int.reduceAdd, Int.reduceSub] at *)
     rw [zo0] at hw
     rw [zf7 (by omega) (by omega), zh5]
     have := zdc (n := (s.length : Int)) ⟨by omega, by omega⟩
     simp; omega
   · (subst hL; subst hQ; simp only [L2, L3, std] at *; try simp only [syS, reduceCtorEq, Int.reduceToNat, Int.reduceAdd, Int.reduceSub] at *)
     rw [zgm hw.1, zh5]
     have h3 := hw.2
     rw [zaj, if_neg h1, if_pos h2] at h3
     simp at h3 |-
     omega
   · (subst hL; subst hQ; simp only [L2, L3, std] at *; try simp only [syS, reduceCtorEq, Int.reduceToNat, Int.reduceAdd, Int.reduceSub] at *)
     rw [zgm hw.1, zh5, zaj, if_neg h1, if_pos h2]
     show ([_] ++ _) ++ _ = _
     rw [List.append_assoc]; rfl
   · (subst hL; subst hQ; simp only [L2, L3, std] at *; try simp only [syS, reduceCtorEq, Int.reduceToNat, Int.reduceAdd, Int.reduceSub] at *)
     rw [zfv hz]
     exact zh4 hz
   · (subst hL; subst hQ; simp only [L2, L3, std] at *; try simp only [syS, reduceCtorEq, Int.reduceToNat, Int.reduceAdd, Int.reduceSub] at *)
     rw [zfv hz, zh5]
     have := zdc (zh4 hz)
     simp; omega
   · (cbv; try simp only [syT, true_and, and_true])
     (subst hL; subst hQ; simp only [L2, L3, std] at *; try simp only [syS, reduceCtorEq, Int.reduceToNat, Int.reduceAdd, Int.reduceSub] at *)
     rw [zfv hz, zh5]
     exact ⟨by rw [zn2, zf8, List.take_zero, zb2, List.append_nil]; rfl, Nat.zero_le _⟩
   · cbv at hi
     (cbv; try simp only [syT, true_and, and_true])
     refine ⟨fun hlt => ⟨?_, ⟨?_, ?_, ?_⟩, ?_, ⟨i + 1, ?_⟩⟩, fun hge => ?_⟩
     · (subst hL; subst hQ; simp only [L2, L3, std] at *; try simp only [syS, reduceCtorEq, Int.reduceToNat, Int.reduceAdd, Int.reduceSub] at *)
       omega
     · (subst hL; subst hQ; simp only [L2, L3, std] at *; try simp only [syS, reduceCtorEq, Int.reduceToNat, Int.reduceAdd, Int.reduceSub] at *)
       exact (zf1 _).2
     · (subst hL; subst hQ; simp only [L2, L3, std] at *; try simp only [syS, reduceCtorEq, Int.reduceToNat, Int.reduceAdd, Int.reduceSub] at *)
       rw [zbd]
       rw [zaf] at hz
       exact zes hz.1 (by have : lenL l = l.length := rfl; omega)
     · (subst hL; subst hQ; simp only [L2, L3, std] at *; try simp only [syS, reduceCtorEq, Int.reduceToNat, Int.reduceAdd, Int.reduceSub] at *)
       rw [zai]
       exact zzj hw (by omega) (by omega) (by have : lenL l = l.length := rfl; omega)
     · (subst hL; subst hQ; simp only [L2, L3, std] at *; try simp only [syS, reduceCtorEq, Int.reduceToNat, Int.reduceAdd, Int.reduceSub] at *)
       rw [zai]
       have h3 := hw.2
       have h4 := zch (l := l) (i := i) (by have : lenL l = l.length := rfl; omega)
       have h5 := zha l (i + 1)
       rw [h4, List.length_append] at h5
       rw [zaj, if_neg h1, if_neg h2] at h3
       simp only [List.length_append, zn2] at h3 |-
       omega
     · (cbv; try simp only [syT, true_and, and_true])
       (subst hL; subst hQ; simp only [L2, L3, std] at *; try simp only [syS, reduceCtorEq, Int.reduceToNat, Int.reduceAdd, Int.reduceSub] at *)
       have : lenL l = l.length := rfl
       have := zdp l
       rw [zaf] at hz
       have h4 := hz.1.1
       have h5 := hz.1.2
       rw [zai]
       exact ⟨by rw [zn2, zn2, zch (by omega)]; simp only [List.append_assoc], by omega, by omega, by omega⟩
     · (subst hL; subst hQ; simp only [L2, L3, std] at *; try simp only [syS, reduceCtorEq, Int.reduceToNat, Int.reduceAdd, Int.reduceSub] at *)
       have : lenL l = l.length := rfl
       have hil : i = l.length := by omega
       rw [zaj, if_neg h1, if_neg h2, zn2, hil, zf8, List.take_length, List.append_assoc]
def zoi (b : List UInt8) (k : Int) (l : List CV) (i : Nat) : List UInt8 := b ++ zgb k ++ zas l.length ++ zf8 l i
def putA (L : zaa) (b : List UInt8) (k : Int) (l : List CV) : Nat -> St -> Option Ann := fun id s => match id with
 | 1 => some ⟨Nat, fun i => [(23, .int .i64 (L zav i))], fun i => [(500000, .box 172 [.ref 500000 0, .sl 901 1 0 (L lenN (L (L3 L zoi b k l) i))]), (901, .row 5 1 (L lenN (L (L3 L zoi b k l) i)) (fun j _ => .int .u8 (L2 L za9 (L (L3 L zoi b k l) i) j)))], [0, 21, 22], [],
     fun i => L2 L (fun (l : List CV) i => i <= l.length) l i, fun i => L2 L (fun (l : List CV) (i : Nat) => l.length - i) l i⟩
 | _ => none
def zq7 (N : Nat) (L : zaa) : zmi := (124, fun raw ob => match raw with
 | [.ref id 0, .agg [.int .i64 k, .int .u64 n, .str s, x]] => match ye2 L ob id with
   | some none => some ⟨[.ref 500000 0, .agg [.int .i64 k, .int .u64 n, .str s, x]], ypf, L okL x /\ L2 L zk3 N (mkV L k n s x) /\ L zs0 (mkV L k n s x), .tup [], zu3 L (L zbr (mkV L k n s x))⟩
   | some (some l) => some ⟨[.ref 500000 0, .agg [.int .i64 k, .int .u64 n, .str s, x]], bld L l, L okL x /\ L2 L zk3 N (mkV L k n s x) /\ L zs0 (mkV L k n s x) /\ L2 L zfy l (L zbr (mkV L k n s x)), .tup [], zu3 L (L2 L zae l (L zbr (mkV L k n s x)))⟩
   | none => none
 | _ => none)
theorem yqi {b : List UInt8} {k n : Int} {s : List UInt8} {l : List CV} (h : zfy b (zbr (.mk k n s l))) : zfy b (zc9 (k % 256)) := by
 rw [zaj] at h
 unfold zfy at h |-
 have : (zgb k).length = 1 := rfl
 have : (zc9 (k % 256)).length = 1 := rfl
 rw [List.length_append] at h
 omega
theorem zuk {b q : List UInt8} {k : Int} (h : zfy b (zgb k ++ q)) : zfy (zae b (zc9 (k % 256))) q := by
 unfold zfy zae at *
 have : (zgb k).length = 1 := rfl
 have : (zc9 (k % 256)).length = 1 := rfl
 rw [List.length_append] at h |-
 omega
theorem yj1 {b q r : List UInt8} {k : Int} (h : zfy b (zgb k ++ (q ++ r))) : zfy (zae b (zc9 (k % 256))) q := by
 unfold zfy zae at *
 have : (zgb k).length = 1 := rfl
 have : (zc9 (k % 256)).length = 1 := rfl
 rw [List.length_append, List.length_append] at h
 rw [List.length_append]
 omega
theorem zui {x y : List UInt8} (h : x = y) : (lenN x = lenN y /\ ∀ i j : Nat, i < lenN y -> j < 1 -> AV.int .u8 (za9 x i) = AV.int .u8 (za9 y i)) /\ lenN x = lenN y := by
 subst h; exact ⟨⟨rfl, fun _ _ _ _ => rfl⟩, rfl⟩
theorem yix {b q t : List UInt8} {k : Int} (h : t = zgb k ++ q) : (lenN (zae (zae b (zc9 (k % 256))) q) = lenN (zae b t) /\ ∀ i j : Nat, i < lenN (zae b t) -> j < 1 -> AV.int .u8 (za9 (zae (zae b (zc9 (k % 256))) q) i) = AV.int .u8 (za9 (zae b t) i)) /\ lenN (zae (zae b (zc9 (k % 256))) q) = lenN (zae b t) :=
 zui (by rw [h]; unfold zae; rw [List.append_assoc]; rfl)
theorem yiy {q t : List UInt8} {k : Int} (h : t = zgb k ++ q) : (lenN (zae (zc9 (k % 256)) q) = lenN t /\ ∀ i j : Nat, i < lenN t -> j < 1 -> AV.int .u8 (za9 (zae (zc9 (k % 256)) q) i) = AV.int .u8 (za9 t i)) /\ lenN (zae (zc9 (k % 256)) q) = lenN t :=
 zui (by rw [h]; rfl)
theorem ylm {N : Nat} (ih : zfu Tryz.prog (zq7 N std)) (b : List UInt8) (k n : Int) (s : List UInt8) (l : List CV) (hz : zk3 (N + 1) (.mk k n s l)) (hw : zs0 (.mk k n s l)) (hb : zfy b (zbr (.mk k n s l))) :
   zc5 Tryz.prog 124 [.ref 500000 0, .agg [.int .i64 k, .int .u64 n, .str s, cvL std l]] (bld std b) (.tup []) (zu3 std (zae b (zbr (.mk k n s l)))) := by
 refine zbp (T := tt) (S := fun L => zcb [zl4 L] [ytq L, ytp L, zq7 N L]) (lo := fun L => putA L b k l) (lb := noA) 5 (fn := Tryz.f124) (xs := fun L => [.ref 500000 0, .agg [.int .i64 k, .int .u64 n, .str s, cvL L l]]) (rts := fun _ => []) (O := fun L => bld L b) (O1 := fun L => zu3 L (L2 L zae b (L zbr (.mk k n s l))))
   rfl rfl (by kernel_rfl) (by kernel_rfl) (by kernel_rfl) zab (zay ⟨zja, trivial⟩ ⟨zza, zz4, ih, trivial⟩) (by kernel_rfl) ?_
 intro L P' Q' hL hP hQ
 have hB : ∀ b : List UInt8, L (L zbe (L lenN b)) (fun i => (AV.int .u8 (L2 L za9 b i)).toI) = b := by subst hL; exact zhl
 (cbv; try simp only [syT, true_and, and_true])
 simp only [hB]
 refine ⟨⟨trivial, fun _ _ _ _ => trivial⟩, trivial, ⟨?_, ?_⟩, fun h1 => ⟨?_, ⟨trivial, fun _ _ _ _ => trivial⟩, trivial, ?_, ?_⟩, fun h1 => ⟨fun h2 => ⟨?_, ?_, ⟨trivial, fun _ _ _ _ => trivial⟩, trivial, ?_, ?_⟩, fun h2 => ⟨?_, ⟨trivial, fun _ _ _ _ => trivial⟩, trivial, ?_, ⟨0, ?_⟩, fun i hi => ?_⟩⟩⟩
 · (subst hL; subst hQ; simp only [L2, L3, std] at *; try simp only [syS, reduceCtorEq, Int.reduceToNat, Int.reduceAdd, Int.reduceSub] at *)
   exact ⟨Int.emod_nonneg _ (by omega), Int.emod_lt_of_pos _ (by omega)⟩
 · (subst hL; subst hQ; simp only [L2, L3, std] at *; try simp only [syS, reduceCtorEq, Int.reduceToNat, Int.reduceAdd, Int.reduceSub] at *)
   exact yqi hb
 · (subst hL; subst hQ; simp only [L2, L3, std] at *; try simp only [syS, reduceCtorEq, Int.reduceToNat, Int.reduceAdd, Int.reduceSub] at *)
   rw [zo0] at hw
   exact hw.1.1
 · (subst hL; subst hQ; simp only [L2, L3, std] at *; try simp only [syS, reduceCtorEq, Int.reduceToNat, Int.reduceAdd, Int.reduceSub] at *)
   rw [zaj, if_pos h1] at hb
   exact zuk hb
 · (subst hL; subst hQ; simp only [L2, L3, std] at *; try simp only [syS, reduceCtorEq, Int.reduceToNat, Int.reduceAdd, Int.reduceSub] at *)
   exact yix (by rw [zaj, if_pos h1])
 · (subst hL; subst hQ; simp only [L2, L3, std] at *; try simp only [syS, reduceCtorEq, Int.reduceToNat, Int.reduceAdd, Int.reduceSub] at *)
   rw [zo0] at hw
   rw [zf7 (by omega) (by omega)]
   exact ⟨by omega, by omega⟩
 · (subst hL; subst hQ; simp only [L2, L3, std] at *; try simp only [syS, reduceCtorEq, Int.reduceToNat, Int.reduceAdd, Int.reduceSub] at *)
   rw [zgm hw.1]
   have h3 := hw.2
   rw [zaj, if_neg h1, if_pos h2] at h3
   simp at h3 |-
   omega
 · (subst hL; subst hQ; simp only [L2, L3, std] at *; try simp only [syS, reduceCtorEq, Int.reduceToNat, Int.reduceAdd, Int.reduceSub] at *)
   rw [zgm hw.1]
   rw [zaj, if_neg h1, if_pos h2] at hb
   exact zuk hb
 · (subst hL; subst hQ; simp only [L2, L3, std] at *; try simp only [syS, reduceCtorEq, Int.reduceToNat, Int.reduceAdd, Int.reduceSub] at *)
   rw [zgm hw.1]
   exact yix (by rw [zaj, if_neg h1, if_pos h2])
 · (subst hL; subst hQ; simp only [L2, L3, std] at *; try simp only [syS, reduceCtorEq, Int.reduceToNat, Int.reduceAdd, Int.reduceSub] at *)
   rw [zfv hz]
   exact zh4 hz
 · (subst hL; subst hQ; simp only [L2, L3, std] at *; try simp only [syS, reduceCtorEq, Int.reduceToNat, Int.reduceAdd, Int.reduceSub] at *)
   rw [zfv hz]
   rw [zaj, if_neg h1, if_neg h2] at hb
   exact yj1 hb
 · (cbv; try simp only [syT, true_and, and_true])
   (subst hL; subst hQ; simp only [L2, L3, std] at *; try simp only [syS, reduceCtorEq, Int.reduceToNat, Int.reduceAdd, Int.reduceSub] at *)
   rw [zfv hz]
   have e : zae (zae b (zc9 (k % 256))) (zas ((l.length : Nat) : Int)) = zoi b k l 0 := by
     rw [zoi, zf8, List.take_zero, zb2, List.append_nil]; rfl
   rw [e]
   exact ⟨⟨rfl, fun _ _ _ _ => rfl⟩, rfl, Nat.zero_le _⟩
 · cbv at hi
   (cbv; try simp only [syT, true_and, and_true])
   simp only [hB]
   refine ⟨fun hlt => ⟨?_, ⟨trivial, fun _ _ _ _ => trivial⟩, trivial, fun _ _ _ _ => trivial, ⟨?_, ?_, ?_, ?_⟩, ⟨i + 1, ?_⟩⟩, fun hge => ?_⟩
   · (subst hL; subst hQ; simp only [L2, L3, std] at *; try simp only [syS, reduceCtorEq, Int.reduceToNat, Int.reduceAdd, Int.reduceSub] at *)
     omega
   · (subst hL; subst hQ; simp only [L2, L3, std] at *; try simp only [syS, reduceCtorEq, Int.reduceToNat, Int.reduceAdd, Int.reduceSub] at *)
     exact (zf1 _).2
   · (subst hL; subst hQ; simp only [L2, L3, std] at *; try simp only [syS, reduceCtorEq, Int.reduceToNat, Int.reduceAdd, Int.reduceSub] at *)
     rw [zbd]
     rw [zaf] at hz
     exact zes hz.1 (by have : lenL l = l.length := rfl; omega)
   · (subst hL; subst hQ; simp only [L2, L3, std] at *; try simp only [syS, reduceCtorEq, Int.reduceToNat, Int.reduceAdd, Int.reduceSub] at *)
     rw [zai]
     exact zzj hw (by omega) (by omega) (by have : lenL l = l.length := rfl; omega)
   · (subst hL; subst hQ; simp only [L2, L3, std] at *; try simp only [syS, reduceCtorEq, Int.reduceToNat, Int.reduceAdd, Int.reduceSub] at *)
     rw [zai]
     have h4 := zch (l := l) (i := i) (by have : lenL l = l.length := rfl; omega)
     have h5 := zha l (i + 1)
     rw [h4, List.length_append] at h5
     rw [zaj, if_neg h1, if_neg h2] at hb
     unfold zfy at hb |-
     simp only [List.length_append, zoi] at hb |-
     omega
   · (cbv; try simp only [syT, true_and, and_true])
     (subst hL; subst hQ; simp only [L2, L3, std] at *; try simp only [syS, reduceCtorEq, Int.reduceToNat, Int.reduceAdd, Int.reduceSub] at *)
     have : lenL l = l.length := rfl
     have := zdp l
     rw [zaf] at hz
     have h4 := hz.1.1
     have h5 := hz.1.2
     rw [zai]
     have e : zae (zoi b k l i) (zbr (zdo l i)) = zoi b k l (i + 1) := by
       rw [zoi, zoi, zch (by omega)]; unfold zae; simp only [List.append_assoc]
     rw [e]
     exact ⟨⟨rfl, fun _ _ _ _ => rfl⟩, rfl, by omega, by omega, by omega⟩
   · (subst hL; subst hQ; simp only [L2, L3, std] at *; try simp only [syS, reduceCtorEq, Int.reduceToNat, Int.reduceAdd, Int.reduceSub] at *)
     have : lenL l = l.length := rfl
     have hil : i = l.length := by omega
     exact zui (by rw [zaj, if_neg h1, if_neg h2, zoi, hil, zf8, List.take_length]; unfold zae; simp only [List.append_assoc])
theorem yln {N : Nat} (ih : zfu Tryz.prog (zq7 N std)) (k n : Int) (s : List UInt8) (l : List CV) (hz : zk3 (N + 1) (.mk k n s l)) (hw : zs0 (.mk k n s l)) :
   zc5 Tryz.prog 124 [.ref 500000 0, .agg [.int .i64 k, .int .u64 n, .str s, cvL std l]] ypf (.tup []) (zu3 std (zbr (.mk k n s l))) := by
 refine zbp (T := tt) (S := fun L => zcb [zl4 L] [ytq L, ytp L, zq7 N L]) (lo := fun L => putA L [] k l) (lb := noA) 5 (fn := Tryz.f124) (xs := fun L => [.ref 500000 0, .agg [.int .i64 k, .int .u64 n, .str s, cvL L l]]) (rts := fun _ => []) (O := fun L => ypf) (O1 := fun L => zu3 L (L zbr (.mk k n s l)))
   rfl rfl (by kernel_rfl) (by kernel_rfl) (by kernel_rfl) zab (zay ⟨zja, trivial⟩ ⟨zza, zz4, ih, trivial⟩) (by kernel_rfl) ?_
 intro L P' Q' hL hP hQ
 have hb : zfy [] (zbr (.mk k n s l)) := by have := hw.2; unfold zfy; simp; omega
 have hB : ∀ b : List UInt8, L (L zbe (L lenN b)) (fun i => (AV.int .u8 (L2 L za9 b i)).toI) = b := by subst hL; exact zhl
 (cbv; try simp only [syT, true_and, and_true])
 simp only [hB]
 refine ⟨?_, fun h1 => ⟨?_, ⟨trivial, fun _ _ _ _ => trivial⟩, trivial, ?_, ?_⟩, fun h1 => ⟨fun h2 => ⟨?_, ?_, ⟨trivial, fun _ _ _ _ => trivial⟩, trivial, ?_, ?_⟩, fun h2 => ⟨?_, ⟨trivial, fun _ _ _ _ => trivial⟩, trivial, ?_, ⟨0, ?_⟩, fun i hi => ?_⟩⟩⟩
 · (subst hL; subst hQ; simp only [L2, L3, std] at *; try simp only [syS, reduceCtorEq, Int.reduceToNat, Int.reduceAdd, Int.reduceSub] at *)
   exact ⟨Int.emod_nonneg _ (by omega), Int.emod_lt_of_pos _ (by omega)⟩
 · (subst hL; subst hQ; simp only [L2, L3, std] at *; try simp only [syS, reduceCtorEq, Int.reduceToNat, Int.reduceAdd, Int.reduceSub] at *)
   rw [zo0] at hw
   exact hw.1.1
 · (subst hL; subst hQ; simp only [L2, L3, std] at *; try simp only [syS, reduceCtorEq, Int.reduceToNat, Int.reduceAdd, Int.reduceSub] at *)
   rw [zaj, if_pos h1] at hb
   exact zuk hb
 · (subst hL; subst hQ; simp only [L2, L3, std] at *; try simp only [syS, reduceCtorEq, Int.reduceToNat, Int.reduceAdd, Int.reduceSub] at *)
   exact yiy (by rw [zaj, if_pos h1])
 · (subst hL; subst hQ; simp only [L2, L3, std] at *; try simp only [syS, reduceCtorEq, Int.reduceToNat, Int.reduceAdd, Int.reduceSub] at *)
   rw [zo0] at hw
   rw [zf7 (by omega) (by omega)]
   exact ⟨by omega, by omega⟩
 · (subst hL; subst hQ; simp only [L2, L3, std] at *; try simp only [syS, reduceCtorEq, Int.reduceToNat, Int.reduceAdd, Int.reduceSub] at *)
   rw [zgm hw.1]
   have h3 := hw.2
   rw [zaj, if_neg h1, if_pos h2] at h3
   simp at h3 |-
   omega
 · (subst hL; subst hQ; simp only [L2, L3, std] at *; try simp only [syS, reduceCtorEq, Int.reduceToNat, Int.reduceAdd, Int.reduceSub] at *)
   rw [zgm hw.1]
   rw [zaj, if_neg h1, if_pos h2] at hb
   exact zuk hb
 · (subst hL; subst hQ; simp only [L2, L3, std] at *; try simp only [syS, reduceCtorEq, Int.reduceToNat, Int.reduceAdd, Int.reduceSub] at *)
   rw [zgm hw.1]
   exact yiy (by rw [zaj, if_neg h1, if_pos h2])
 · (subst hL; subst hQ; simp only [L2, L3, std] at *; try simp only [syS, reduceCtorEq, Int.reduceToNat, Int.reduceAdd, Int.reduceSub] at *)
   rw [zfv hz]
   exact zh4 hz
 · (subst hL; subst hQ; simp only [L2, L3, std] at *; try simp only [syS, reduceCtorEq, Int.reduceToNat, Int.reduceAdd, Int.reduceSub] at *)
   rw [zfv hz]
   rw [zaj, if_neg h1, if_neg h2] at hb
   exact yj1 hb
 · (cbv; try simp only [syT, true_and, and_true])
   (subst hL; subst hQ; simp only [L2, L3, std] at *; try simp only [syS, reduceCtorEq, Int.reduceToNat, Int.reduceAdd, Int.reduceSub] at *)
   rw [zfv hz]
   have e : zae (zc9 (k % 256)) (zas ((l.length : Nat) : Int)) = zoi [] k l 0 := by
     rw [zoi, zf8, List.take_zero, zb2, List.append_nil]; rfl
   rw [e]
   exact ⟨⟨rfl, fun _ _ _ _ => rfl⟩, rfl, Nat.zero_le _⟩
 · cbv at hi
   (cbv; try simp only [syT, true_and, and_true])
   simp only [hB]
   refine ⟨fun hlt => ⟨?_, ⟨trivial, fun _ _ _ _ => trivial⟩, trivial, fun _ _ _ _ => trivial, ⟨?_, ?_, ?_, ?_⟩, ⟨i + 1, ?_⟩⟩, fun hge => ?_⟩
   · (subst hL; subst hQ; simp only [L2, L3, std] at *; try simp only [syS, reduceCtorEq, Int.reduceToNat, Int.reduceAdd, Int.reduceSub] at *)
     omega
   · (subst hL; subst hQ; simp only [L2, L3, std] at *; try simp only [syS, reduceCtorEq, Int.reduceToNat, Int.reduceAdd, Int.reduceSub] at *)
     exact (zf1 _).2
   · (subst hL; subst hQ; simp only [L2, L3, std] at *; try simp only [syS, reduceCtorEq, Int.reduceToNat, Int.reduceAdd, Int.reduceSub] at *)
     rw [zbd]
     rw [zaf] at hz
     exact zes hz.1 (by have : lenL l = l.length := rfl; omega)
   · (subst hL; subst hQ; simp only [L2, L3, std] at *; try simp only [syS, reduceCtorEq, Int.reduceToNat, Int.reduceAdd, Int.reduceSub] at *)
     rw [zai]
     exact zzj hw (by omega) (by omega) (by have : lenL l = l.length := rfl; omega)
   · (subst hL; subst hQ; simp only [L2, L3, std] at *; try simp only [syS, reduceCtorEq, Int.reduceToNat, Int.reduceAdd, Int.reduceSub] at *)
     rw [zai]
     have h4 := zch (l := l) (i := i) (by have : lenL l = l.length := rfl; omega)
     have h5 := zha l (i + 1)
     rw [h4, List.length_append] at h5
     rw [zaj, if_neg h1, if_neg h2] at hb
     unfold zfy at hb |-
     simp only [List.length_append, zoi] at hb |-
     omega
   · (cbv; try simp only [syT, true_and, and_true])
     (subst hL; subst hQ; simp only [L2, L3, std] at *; try simp only [syS, reduceCtorEq, Int.reduceToNat, Int.reduceAdd, Int.reduceSub] at *)
     have : lenL l = l.length := rfl
     have := zdp l
     rw [zaf] at hz
     have h4 := hz.1.1
     have h5 := hz.1.2
     rw [zai]
     have e : zae (zoi [] k l i) (zbr (zdo l i)) = zoi [] k l (i + 1) := by
       rw [zoi, zoi, zch (by omega)]; unfold zae; simp only [List.append_assoc]
     rw [e]
     exact ⟨⟨rfl, fun _ _ _ _ => rfl⟩, rfl, by omega, by omega, by omega⟩
   · (subst hL; subst hQ; simp only [L2, L3, std] at *; try simp only [syS, reduceCtorEq, Int.reduceToNat, Int.reduceAdd, Int.reduceSub] at *)
     have : lenL l = l.length := rfl
     have hil : i = l.length := by omega
     exact zui (by rw [zaj, if_neg h1, if_neg h2, zoi, hil, zf8, List.take_length, List.nil_append, List.append_assoc])
theorem zow {P : Program} {f : FuncId} {xs ys : List AV} {O O1 : List (Nat × Ob)} {r : AV} (e : ∀ h D μ vs, RL h D μ xs vs -> RL h D μ ys vs) (hm : zc5 P f ys O r O1) : zc5 P f xs O r O1 :=
 fun D w μ vs hD hx => hm D w μ vs hD (e _ _ _ _ hx)
theorem ydj : ∀ N, zfu Tryz.prog (zq7 N std) := by
 intro N
 induction N with
 | zero =>
   intro raw ob T hT hp
   unfold zq7 at hT
   simp only at hT
   split at hT
   · rename_i k n s x
     split at hT <;> cases hT
     · have h1 : sizeC (mkV std k n s x) <= 0 := hp.2.1.1
       have := zcz (mkV std k n s x)
       omega
     · have h1 : sizeC (mkV std k n s x) <= 0 := hp.2.1.1
       have := zcz (mkV std k n s x)
       omega
   · cases hT
 | succ N ih =>
   intro raw ob T hT hp
   unfold zq7 at hT
   simp only at hT
   split at hT
   rotate_left
   · cases hT
   rename_i k n s x
   split at hT <;> cases hT
   · refine zow (fun h D μ vs hr => yql (fun v => yke hp.1) hr) ?_
     exact yln ih k n s (rdL x) hp.2.1 hp.2.2
   · refine zow (fun h D μ vs hr => yql (fun v => yke hp.1) hr) ?_
     exact ylm ih _ k n s (rdL x) hp.2.1 hp.2.2.1 hp.2.2.2
theorem zu7 {P : Program} {f : FuncId} {sz n : Nat} {get : Nat -> Nat -> AV} {r : AV} (h0 : n = 0 -> za7 P f [.nils] r) (h1 : n = 0 -> za7 P f [.emp] r) (h2 : 0 < n -> za7 P f [.lst sz n get] r) : za7 P f [.lst sz n get] r := by
 by_cases e : n = 0
 · subst e
   intro D w vs hD hx
   obtain ⟨v, hv⟩ : ∃ v, vs.toList = [v] := List.length_eq_one_iff.1 (by simpa using hx.1.symm)
   have : vs = #[v] := by rw [<- Array.toArray_toList (xs := vs), hv]
   subst this
   have hr := hx.2 0 _ _ rfl rfl
   have one : ∀ y, R w.heap D zax y v -> RL w.heap D zax [y] #[v] := fun y r => ⟨rfl, fun i x u hx hu => by
     match i with
     | 0 => cases hx; cases hu; exact r
     | i + 1 => simp at hx⟩
   cases hr with
   | lst0 _ _ a cap hn =>
     cases a with
     | none =>
       obtain rfl := hn rfl
       exact h0 rfl D w _ hD (one _ .nils)
     | some a => exact h1 rfl D w _ hD (one _ (.emp a cap))
   | lst _ _ _ b o cap vs' hD' hc hv' h1' hr' => exact h1 rfl D w _ hD (one _ (.emp _ cap))
 · exact h2 (by omega)
def zgd (n : Int) : CV := .mk 1 n [] []
def zh9 (s : List UInt8) : CV := .mk 2 0 s []
def zdl (l : List CV) : CV := .mk 3 0 [] l
def zxk (L : zaa) : zbg := (77, fun xs => match xs with | [.int .u64 n] => some (True, cvA L (L zgd n)) | _ => none)
def zwa (L : zaa) : zbg := (128, fun xs => match xs with | [.str s] => some (True, cvA L (L zh9 s)) | _ => none)
theorem zke : zaz Tryz.prog (zxk std) := by
 intro xs p r h hp
 unfold zxk at h
 simp only at h
 split at h
 rotate_left
 · cases h
 rename_i n
 cases h
 refine zac (T := tt) (S := noS) (lo := noA) (lb := noA) 5 (fn := Tryz.f77) rfl rfl (by kernel_rfl) (by kernel_rfl) rfl zab (zbh _) (by kernel_rfl) ?_
 (intro L P1 Q1 hL hP hQ; cbv; subst hL; simp only [L2, L3, std, syT]; subst hQ)
 show zic (.agg [.int .i64 1, .int .u64 n, .str [], .lst 4 0 (zkq (zgd n))]) _
 simp [zh1, zdh, ze4, zhj, zcs]
theorem zkb : zaz Tryz.prog (zwa std) := by
 intro xs p r h hp
 unfold zwa at h
 simp only at h
 split at h
 rotate_left
 · cases h
 rename_i n
 cases h
 refine zac (T := tt) (S := noS) (lo := noA) (lb := noA) 5 (fn := Tryz.f128) rfl rfl (by kernel_rfl) (by kernel_rfl) rfl zab (zbh _) (by kernel_rfl) ?_
 (intro L P1 Q1 hL hP hQ; cbv; subst hL; simp only [L2, L3, std, syT]; subst hQ)
 show zic (.agg [.int .i64 2, .int .u64 0, .str n, .lst 4 0 (zkq (zh9 n))]) _
 simp [zh1, zdh, ze4, zhj, zcs]
def yc1 (l : List CV) : Prop := l.length <= 1000000
def ztv (L : zaa) : zbg := (127, fun xs => match xs with
 | [x] => some (L okL x /\ L yc1 (L rdL x), .lst 4 (L lenL (L rdL x)) (L ziy (L rdL x)))
 | _ => none)
theorem zyf : zaz Tryz.prog (ztv std) := by
 intro xs p r h hp
 unfold ztv at h
 simp only at h
 split at h
 rotate_left
 · cases h
 rename_i x
 cases h
 obtain ⟨ho, hz⟩ := hp
 refine yug ho ?_
 have hz : yc1 (rdL x) := hz
 show za7 _ _ [cvL std (rdL x)] (.lst 4 (lenL (rdL x)) (ziy (rdL x)))
 generalize rdL x = l at hz |-
 refine zu7 (fun h => ?_) (fun h => ?_) (fun h => ?_)
 · refine zac (T := tt) (S := noS) (lo := noA) (lb := noA) 5 (fn := Tryz.f127) rfl rfl (by kernel_rfl) (by kernel_rfl) rfl zab (zbh _) (by kernel_rfl) ?_
   intro L P' Q' hL hP hQ
   (cbv; try simp only [syT, true_and, and_true])
   (subst hL; subst hQ; simp only [L2, L3, std] at *; try simp only [syS, reduceCtorEq, Int.reduceToNat, Int.reduceAdd, Int.reduceSub] at *)
   exact h.symm
 · refine zac (T := tt) (S := noS) (lo := noA) (lb := noA) 5 (fn := Tryz.f127) rfl rfl (by kernel_rfl) (by kernel_rfl) rfl zab (zbh _) (by kernel_rfl) ?_
   intro L P' Q' hL hP hQ
   (cbv; try simp only [syT, true_and, and_true])
   (subst hL; subst hQ; simp only [L2, L3, std] at *; try simp only [syS, reduceCtorEq, Int.reduceToNat, Int.reduceAdd, Int.reduceSub] at *)
   exact ⟨by omega, h.symm, fun i j hi => by omega⟩
 · refine za2 (T := tt) (S := noS) (lo := fun _ => noA std) (lb := noA) 5 (fn := Tryz.f127) (xs := fun L => [cvL L l]) rfl rfl (by kernel_rfl) (by kernel_rfl) rfl zab (zbh _) (by kernel_rfl) ?_
   intro L P' Q' hL hP hQ
   (cbv; try simp only [syT, true_and, and_true])
   (subst hL; subst hQ; simp only [L2, L3, std] at *; try simp only [syS, reduceCtorEq, Int.reduceToNat, Int.reduceAdd, Int.reduceSub] at *)
   have h1 : lenL l <= 1000000 := hz
   exact ⟨zgl h, by omega, fun i j hi hj => by rw [ztu _ _ hj, zbz _ _ _ hi]⟩
def zge (L : zaa) : zbg := (76, fun xs => match xs with
 | [x] => some (L okL x /\ L yc1 (L rdL x), cvA L (L zdl (L rdL x)))
 | _ => none)
theorem zce : zaz Tryz.prog (zge std) := by
 intro xs p r h hp
 unfold zge at h
 simp only at h
 split at h
 rotate_left
 · cases h
 rename_i x
 cases h
 obtain ⟨ho, hz⟩ := hp
 refine yug ho ?_
 have hz : yc1 (rdL x) := hz
 show za7 _ _ [cvL std (rdL x)] (cvA std (zdl (rdL x)))
 generalize rdL x = l at hz |-
 refine za2 (T := tt) (S := fun L => zao [ztv L]) (lo := fun _ => noA std) (lb := noA) 5 (fn := Tryz.f76) (xs := fun L => [cvL L l]) rfl rfl (by kernel_rfl) (by kernel_rfl) rfl zab (za3 ⟨zyf, trivial⟩) (by kernel_rfl) ?_
 intro L P' Q' hL hP hQ
 (cbv; try simp only [syT, true_and, and_true])
 (subst hL; subst hQ; simp only [L2, L3, std] at *; try simp only [syS, reduceCtorEq, Int.reduceToNat, Int.reduceAdd, Int.reduceSub] at *)
 rw [rdl]
 refine ⟨⟨okl l, hz⟩, ?_⟩
 show zic (.agg [.int .i64 3, .int .u64 0, .str [], .lst 4 (lenL l) (ziy l)]) _
 simp [zh1, zdh, ze4, ze5, zcs]
def zlc (v : CV) : Int := if zds v = true then (if zco v > 6 then 8 else if (zbr v).length > 8192 then 5 else 0) else 10
def zoj (v : CV) : List UInt8 := if zlc v = 0 then zbr v else []
def zvv (N : Nat) (L : zaa) : zbg := (75, fun xs => match xs with
 | [.agg [.int .i64 k, .int .u64 n, .str s, x]] => some (L okL x /\ L2 L zk3 N (mkV L k n s x) /\ L zs0 (mkV L k n s x), .tup [.str (L zoj (mkV L k n s x)), .int .i64 (L zlc (mkV L k n s x))])
 | _ => none)
def zs9 (N : Nat) (L : zaa) : zbg := (102, fun xs => match xs with
 | [.agg [.int .i64 k, .int .u64 n, .str s, x]] => some (L okL x /\ L2 L zk3 N (mkV L k n s x) /\ L zs0 (mkV L k n s x), .tup [.str (L zoj (mkV L k n s x)), .int .i64 (L zlc (mkV L k n s x))])
 | _ => none)
theorem znm (N : Nat) : zaz Tryz.prog (zvv N std) := by
 intro xs p r h hp
 unfold zvv at h
 simp only at h
 split at h
 rotate_left
 · cases h
 rename_i k n s x
 cases h
 obtain ⟨ho, hz, hw⟩ := hp
 refine yk0 ho ?_
 rw [show mkV std k n s x = .mk k n s (rdL x) from rfl] at hz hw |-
 generalize rdL x = l at hz hw |-
 have hz : zk3 N (.mk k n s l) := hz
 have hw : zs0 (.mk k n s l) := hw
 refine za2 (T := tt) (S := fun L => zcb [znp N L, zrb N L] [zq7 N L, ywz L, ywy L]) (lo := fun _ => noA std) (lb := noA) 5 (fn := Tryz.f75) (xs := fun L => [.agg [.int .i64 k, .int .u64 n, .str s, cvL L l]]) rfl rfl (by kernel_rfl) (by kernel_rfl) rfl zab
   (zay ⟨ye4 N, ydd N, trivial⟩ ⟨ydj N, yom, yok, trivial⟩) (by kernel_rfl) ?_
 intro L P' Q' hL hP hQ
 have hB : ∀ b : List UInt8, L (L zbe (L lenN b)) (fun i => (AV.int .u8 (L2 L za9 b i)).toI) = b := by subst hL; exact zhl
 (cbv; try simp only [syT, true_and, and_true])
 simp only [hB]
 (subst hL; subst hQ; simp only [L2, L3, std] at *; try simp only [syS, reduceCtorEq, Int.reduceToNat, Int.reduceAdd, Int.reduceSub] at *)
 simp only [rdl, mkl]
 refine ⟨⟨okl l, hz⟩, fun h1 => ?_, fun h1 => ⟨⟨okl l, hz⟩, fun h2 => ?_, fun h2 => ⟨⟨okl l, hz, hw⟩, fun h3 => ?_, fun h3 => ⟨⟨?_, hw.2⟩, ?_⟩⟩⟩⟩
 · simp [zoj, zlc, h1]
 · simp [zoj, zlc, h1, h2]
 · have h4 : ¬ 6 < zco (.mk k n s l) := by omega
   have h5 : 8192 < (zbr (.mk k n s l)).length := by omega
   simp [zoj, zlc, h1, h4, h5]
 · rw [zaj]; simp [zgb]
 · have h4 : ¬ 6 < zco (.mk k n s l) := by omega
   have h5 : ¬ 8192 < (zbr (.mk k n s l)).length := by omega
   simp [zoj, zlc, h1, h4, h5]
theorem zwx (N : Nat) : zaz Tryz.prog (zs9 N std) := by
 intro xs p r h hp
 unfold zs9 at h
 simp only at h
 split at h
 rotate_left
 · cases h
 rename_i k n s x
 cases h
 obtain ⟨ho, hz, hw⟩ := hp
 refine yk0 ho ?_
 rw [show mkV std k n s x = .mk k n s (rdL x) from rfl] at hz hw |-
 generalize rdL x = l at hz hw |-
 have hz : zk3 N (.mk k n s l) := hz
 have hw : zs0 (.mk k n s l) := hw
 refine za2 (T := tt) (S := fun L => zao [zlb N L, zl9 N L, zl7 N L]) (lo := fun _ => noA std) (lb := noA) 5 (fn := Tryz.f102) (xs := fun L => [.agg [.int .i64 k, .int .u64 n, .str s, cvL L l]]) rfl rfl (by kernel_rfl) (by kernel_rfl) rfl zab
   (za3 ⟨zxb N, zx8 N, zws N, trivial⟩) (by kernel_rfl) ?_
 intro L P' Q' hL hP hQ
 (cbv; try simp only [syT, true_and, and_true])
 (subst hL; subst hQ; simp only [L2, L3, std] at *; try simp only [syS, reduceCtorEq, Int.reduceToNat, Int.reduceAdd, Int.reduceSub] at *)
 simp only [rdl, mkl]
 refine ⟨⟨okl l, hz⟩, fun h1 => ?_, fun h1 => ⟨⟨okl l, hz⟩, fun h2 => ?_, fun h2 => ⟨⟨okl l, hz, hw⟩, fun h3 => ?_, fun h3 => ?_⟩⟩⟩
 · simp [zoj, zlc, h1]
 · simp [zoj, zlc, h1, h2]
 · have h4 : ¬ 6 < zco (.mk k n s l) := by omega
   have h5 : 8192 < (zbr (.mk k n s l)).length := by omega
   simp [zoj, zlc, h1, h4, h5]
 · have h4 : ¬ 6 < zco (.mk k n s l) := by omega
   have h5 : ¬ 8192 < (zbr (.mk k n s l)).length := by omega
   simp [zoj, zlc, h1, h4, h5]
theorem one1 (v : CV) : rdL (.lst 4 1 fun i j => zbq .dead [.int .i64 v.kd, .int .u64 v.nn, .str v.tx, .lst 4 (zmg v) (zkq v)] (i * 4 + j)) = [v] := by
 show [CV.mk v.kd v.nn v.tx (rdL (.lst 4 (zmg v) (zkq v)))] = [v]
 rw [zbd]
theorem ylx (v : CV) : okL (.lst 4 1 fun i j => zbq .dead [.int .i64 v.kd, .int .u64 v.nn, .str v.tx, .lst 4 (zmg v) (zkq v)] (i * 4 + j)) := by
 refine ⟨rfl, fun i hi => ?_⟩
 have : i = 0 := by omega
 subst this
 exact ⟨⟨_, rfl⟩, ⟨_, rfl⟩, ⟨_, rfl⟩, (zf1 v).2⟩
theorem zzr : zas 1 = [1] := by rw [zas, show (1 : Int).toNat = 1 from rfl, zbb (by decide)]; rfl
theorem yq4 : zas 5 = [5] := by rw [zas, show (5 : Int).toNat = 5 from rfl, zbb (by decide)]; rfl
theorem ztl : zbr (zdl [zgd 5]) = [3, 1, 1, 5] := by
 rw [zdl, zgd, zaj, if_neg (by decide), if_neg (by decide), zb2, zaj, if_pos rfl, zb2, yq4]
 show _ ++ (zas 1 ++ _) = _
 rw [zzr]; rfl
theorem ynk : zds (zdl [zgd 5]) = true := by rw [zdl, zgd, zds, zcw, zds, zcw]; rfl
theorem ynj : zco (zdl [zgd 5]) = 1 := by rw [zdl, zgd, zco, zb7, zco, zb7]; rfl
theorem ynh : sizeC (zdl [zgd 5]) = 2 := by rw [zdl, zgd, zc1, zbt, zcp, zc1, zcp]
theorem yd5 : zlc (zdl [zgd 5]) = 0 := by rw [zlc, ynk, ynj, ztl]; rfl
theorem yni : zoj (zdl [zgd 5]) = [3, 1, 1, 5] := by rw [zoj, yd5, ztl]; rfl
theorem ywi : zs0 (zdl [zgd 5]) := by
 refine ⟨?_, by rw [ztl]; decide⟩
 simp only [zdl, zgd, wfV, zu9, zbu]
 decide
theorem zyl : za7 Tryz.prog 83 [] (.bool true) := by
 refine zac (T := tt) (S := fun L => zao [zxk L, zge L, zvv 100 L, tru 134]) (lo := noA) (lb := noA) 5 (fn := Tryz.f83) rfl rfl (by kernel_rfl) (by kernel_rfl) rfl zab (za3 ⟨zke, zce, znm 100, zcg znw, trivial⟩) (by kernel_rfl) ?_
 intro L P' Q' hL hP hQ
 (cbv; try simp only [syT, true_and, and_true])
 (subst hL; subst hQ; simp only [L2, L3, std] at *; try simp only [syS, reduceCtorEq, Int.reduceToNat, Int.reduceAdd, Int.reduceSub] at *)
 simp only [one1, zbd, zai, yd5, yni]
 exact ⟨⟨ylx _, by show (1 : Nat) <= 1000000; omega⟩, ⟨(zf1 _).2, ⟨by rw [ynh]; omega, by omega⟩, ywi⟩, fun _ => trivial, trivial⟩
theorem zyv : za7 Tryz.prog 32 [] (.bool true) := by
 refine zac (T := tt) (S := fun L => zao [tru 83]) (lo := noA) (lb := noA) 5 (fn := Tryz.f32) rfl rfl (by kernel_rfl) (by kernel_rfl) rfl zab (za3 ⟨zcg zyl, trivial⟩) (by kernel_rfl) ?_
 (intro L P1 Q1 hL hP hQ; cbv; subst hL; simp only [L2, L3, std, syT]; subst hQ)
 (simp only [syS, reduceCtorEq, Int.reduceToNat, Int.reduceAdd, Int.reduceSub])
theorem zph (g : Nat -> CV) {i q j : Nat} (hq : q < i + 1) (hj : j < 4) :
   zia std (zbw q i) (cv1 std (g q) j) (zbq .dead [.int .i64 (g i).kd, .int .u64 (g i).nn, .str (g i).tx, .lst 4 (zmg (g i)) (zkq (g i))] ((q - i) * 4 + j)) = cv1 std (g q) j := by
 by_cases h : q < i
 · rw [zgl h, show q - i = 0 by omega, Nat.zero_mul, Nat.zero_add]
   match j, hj with
   | 0, _ => rfl
   | 1, _ => rfl
   | 2, _ => rfl
   | 3, _ => rfl
 · have : q = i := by omega
   subst this
   rw [zht (by omega), show q - q = 0 by omega, Nat.zero_mul, Nat.zero_add]
   match j, hj with
   | 0, _ => rfl
   | 1, _ => rfl
   | 2, _ => rfl
   | 3, _ => rfl
structure Nd where
 k : Int
 n : Int
 s : List UInt8
 b : List UInt8
def ytz (l : List Nd) (i : Nat) : Nd := l.getD i ⟨0, 0, [], []⟩
def yon {α : Type} (all : List α) : List UInt8 -> List α
 | [] => []
 | x :: b => if h : x.toNat < all.length then all[all.length - 1 - x.toNat] :: yon all b else yon all b
def sumI : List Int -> Int
 | [] => 0
 | x :: l => x + sumI l
def sizN (all : List Int) (d : Nd) : Int := 1 + ((d.s.length / 8 : Nat) : Int) + sumI (yon all d.b)
def ykw (l : List Nd) : Nat -> List Int
 | 0 => []
 | i + 1 => ykw l i ++ [sizN (ykw l i) (ytz l i)]
def sizD (l : List Nd) (i : Nat) : Int := sizN (ykw l i) (ytz l i)
def yhq (l : List Nd) (i : Nat) : Prop := sizD l i <= 2000 /\ (ytz l i).s.length <= 9000 /\ (ytz l i).b.length <= 20 /\ l.length <= 40
def yjm (l : List Nd) (i : Nat) : Prop := ∀ j, j < i -> yhq l j
instance (l : List Nd) (i : Nat) : Decidable (yhq l i) := by unfold yhq; exact inferInstance
instance (l : List Nd) (i : Nat) : Decidable (yjm l i) := by unfold yjm; exact Nat.decidableBallLT i fun j _ => yhq l j
def cb (s : List UInt8) (i : Nat) : Nat := (s.getD i 0).toNat
def lng (s : List UInt8) : Nat -> Nat -> Nat -> Nat × Nat × Nat
 | 0, _, _ => (0, 0, 4)
 | f + 1, i, n =>
   if s.length <= i then (0, 0, 3)
   else if i = 9 /\ 1 < cb s i then (0, 0, 4)
   else if 128 <= cb s i then lng s f (i + 1) (n + cb s i % 128 * 2 ^ (7 * i))
   else if 0 < cb s i \/ i = 0 then (n + cb s i % 128 * 2 ^ (7 * i), i + 1, 0)
   else (0, 0, 4)
def ymf (s : List UInt8) : Int := (lng s 10 0 0).1
def yvp (s : List UInt8) : Int := (lng s 10 0 0).2.1
def yu1 (s : List UInt8) : Int := (lng s 10 0 0).2.2
structure Lv where
 left : Int
 l : List CV
structure NR where
 v : CV
 r : List UInt8
 e : Int
structure NX where
 st : List Lv
 s : List UInt8
 f : Nat
 v : CV
def zmm (e : Int) : NR := ⟨.mk 0 0 [] [], [], e⟩
def zg1 (val : List Lv -> List UInt8 -> NR) : List Lv -> CV -> List UInt8 -> NR
 | [], v, s => ⟨v, s, 0⟩
 | a :: st, v, s => if a.left - 1 = 0 then zg1 val st (.mk 3 0 [] (a.l ++ [v])) s else val (⟨a.left - 1, a.l ++ [v]⟩ :: st) s
def zjj (val : List Lv -> List UInt8 -> NR) : List Lv -> List UInt8 -> NR
 | [], s => zmm 0
 | a :: st, s => if a.left = 0 then zg1 val st (.mk 3 0 [] a.l) s else val (a :: st) s
def zhw (s : List UInt8) : List UInt8 := (s.drop 1).drop (yvp (s.drop 1)).toNat
def zer : Nat -> List Lv -> List UInt8 -> NR
 | 0, _, _ => zmm 0
 | f + 1, st, s =>
   if s = [] then zmm 3
   else if cb s 0 < 1 \/ 3 < cb s 0 then zmm 10
   else if yu1 (s.drop 1) ≠ 0 then zmm (yu1 (s.drop 1))
   else if cb s 0 = 1 then zg1 (zer f) st (.mk 1 (ymf (s.drop 1)) [] []) (zhw s)
   else if cb s 0 = 2 then
     if ((zhw s).length : Int) < ymf (s.drop 1) then zmm 3
     else zg1 (zer f) st (.mk 2 0 ((zhw s).take (ymf (s.drop 1)).toNat) []) ((zhw s).drop (ymf (s.drop 1)).toNat)
   else if st.length = 6 then zmm 8
   else zjj (zer f) (⟨ymf (s.drop 1), []⟩ :: st) (zhw s)
def yr8 (s : List UInt8) : NR := if 8192 < s.length then zmm 5 else zer (s.length + 1) [] s
def yq1 : List Lv -> Nat
 | [] => 0
 | a :: r => a.l.length + 1 + yq1 r
def lvOk (st : List Lv) : Prop := ∀ a ∈ st, 1 <= a.left /\ a.left < 18446744073709551616
def yvn (s0 : List UInt8) (x : NX) : Prop := x.st.length <= 6 /\ lvOk x.st /\ x.s.length < x.f /\ x.s.length + yq1 x.st <= 8192 /\ zer x.f x.st x.s = yr8 s0
section
variable {s0 s : List UInt8} {st : List Lv} {f : Nat} {v : CV}
variable (h : yvn s0 ⟨st, s, f, v⟩)
include h
end
section
variable {s0 s : List UInt8} {st : List Lv} {f : Nat} {v : CV} {a : Lv}
end
end Sy
end Go.Proofs.YthppjaoicibeiaaGreatDoor
namespace Go.Proofs.YthppjaoicibeiaaGreatDoor
namespace Sy
open Go Go.RowKit
set_option maxRecDepth 100000
set_option linter.unusedSimpArgs false
set_option linter.unusedVariables false
theorem yt7 (p : List UInt8) (c : UInt8) (r : List UInt8) : cb (p ++ c :: r) p.length = c.toNat := by
 unfold cb
 rw [List.getD_eq_getElem?_getD, List.getElem?_append_right (Nat.le_refl _), Nat.sub_self]
 rfl
theorem zqo (r : List UInt8) : ∀ (f m n0 : Nat) (p : List UInt8), f + p.length = 10 -> m * 2 ^ (7 * p.length) < 2 ^ 64 -> (0 < m \/ p.length = 0) ->
   lng (p ++ (zdt m ++ r)) f p.length n0 = (n0 + m * 2 ^ (7 * p.length), p.length + (zdt m).length, 0)
 | 0, m, n0, p, hf, hm, h0 => by
   have : p.length = 10 := by omega
   rw [this] at hm h0
   have : 2 ^ (7 * 10) <= m * 2 ^ (7 * 10) := Nat.le_mul_of_pos_left _ (by omega)
   omega
 | f + 1, m, n0, p, hf, hm, h0 => by
   by_cases hb : 128 <= m
   · rw [zfa hb]
     have hc : cb (p ++ (UInt8.ofNat (m % 128 + 128) :: zdt (m / 128) ++ r)) p.length = m % 128 + 128 := by
       rw [List.cons_append, yt7]
       simp; omega
     have h9 : p.length ≠ 9 := by
       intro h
       rw [h] at hm
       have : 128 * 2 ^ (7 * 9) <= m * 2 ^ (7 * 9) := Nat.mul_le_mul_right _ hb
       omega
     rw [lng, if_neg (by simp), hc, if_neg (by omega), if_pos (by omega)]
     have e : p ++ (UInt8.ofNat (m % 128 + 128) :: zdt (m / 128) ++ r) = (p ++ [UInt8.ofNat (m % 128 + 128)]) ++ (zdt (m / 128) ++ r) := by simp
     have hl : (p ++ [UInt8.ofNat (m % 128 + 128)]).length = p.length + 1 := by simp
     have hp : 2 ^ (7 * (p.length + 1)) = 128 * 2 ^ (7 * p.length) := by rw [show 7 * (p.length + 1) = 7 + 7 * p.length by omega, Nat.pow_add]
     have hd : m / 128 * (128 * 2 ^ (7 * p.length)) + m % 128 * 2 ^ (7 * p.length) = m * 2 ^ (7 * p.length) := by
       rw [<- Nat.mul_assoc, <- Nat.add_mul]
       congr 1; omega
     have ih := zqo r f (m / 128) (n0 + (m % 128 + 128) % 128 * 2 ^ (7 * p.length)) (p ++ [UInt8.ofNat (m % 128 + 128)]) (by rw [hl]; omega) (by rw [hl, hp]; omega) (.inl (by omega))
     rw [hl] at ih
     rw [e, ih, hp, List.length_cons, show (m % 128 + 128) % 128 = m % 128 by omega]
     refine Prod.ext ?_ (Prod.ext ?_ rfl)
     · show n0 + m % 128 * 2 ^ (7 * p.length) + m / 128 * (128 * 2 ^ (7 * p.length)) = n0 + m * 2 ^ (7 * p.length)
       omega
     · show p.length + 1 + _ = p.length + (_ + 1)
       omega
   · rw [zbb (by omega)]
     have hc : cb (p ++ ([UInt8.ofNat m] ++ r)) p.length = m := by
       rw [List.singleton_append, yt7]
       simp; omega
     have h9 : ¬ (p.length = 9 /\ 1 < m) := by
       rintro ⟨h, h1⟩
       rw [h] at hm
       have : 2 * 2 ^ (7 * 9) <= m * 2 ^ (7 * 9) := Nat.mul_le_mul_right _ h1
       omega
     rw [lng, if_neg (by simp), hc, if_neg h9, if_neg (by omega), if_pos h0, Nat.mod_eq_of_lt (by omega)]
     rfl
theorem yrn {m : Int} (h : zbu m) (r : List UInt8) : ymf (zas m ++ r) = m /\ yvp (zas m ++ r) = ((zas m).length : Int) /\ yu1 (zas m ++ r) = 0 := by
 have h0 := h.1
 have h1 := h.2
 have := zqo r 10 m.toNat 0 [] rfl (by simp; omega) (.inr rfl)
 simp only [List.nil_append, List.length_nil, Nat.zero_add, Nat.mul_zero, Nat.pow_zero, Nat.mul_one] at this
 unfold ymf yvp yu1 zas
 rw [this]
 refine ⟨?_, rfl, rfl⟩
 show ((m.toNat : Nat) : Int) = m
 omega
theorem zor {m : Int} (h : zbu m) (g : Nat) (st : List Lv) (c : UInt8) (r : List UInt8) (hc : 1 <= c.toNat /\ c.toNat <= 3) : zer (g + 1) st (c :: (zas m ++ r)) =
   if c.toNat = 1 then zg1 (zer g) st (.mk 1 m [] []) r
   else if c.toNat = 2 then
     if (r.length : Int) < m then zmm 3
     else zg1 (zer g) st (.mk 2 0 (r.take m.toNat) []) (r.drop m.toNat)
   else if st.length = 6 then zmm 8
   else zjj (zer g) (⟨m, []⟩ :: st) r := by
 obtain ⟨e1, e2, e3⟩ := yrn h r
 have hcb : cb (c :: (zas m ++ r)) 0 = c.toNat := rfl
 have hr : zhw (c :: (zas m ++ r)) = r := by
   unfold zhw
   rw [List.drop_succ_cons, List.drop_zero, e2]
   simp
 rw [zer, if_neg (by simp), hcb, if_neg (by omega), List.drop_succ_cons, List.drop_zero, e1, e3, hr, if_neg (by simp)]
theorem yns (v : CV) : 0 <= zco v /\ 0 <= zb7 v.ls := by
 have h0 : ∀ b : List CV, 0 <= zb7 b := by
   intro b
   induction b with
   | nil => rw [zb7]; omega
   | cons v l ih => rw [zb7]; omega
 refine ⟨?_, h0 _⟩
 cases v with
 | mk k n s l =>
   rw [zco]
   have := h0 l
   split <;> omega
def yot (v : CV) : Prop := ∀ (st : List Lv) (s : List UInt8) (f : Nat), wfV v -> zds v = true -> (st.length : Int) + zco v <= 6 -> (zbr v).length <= 90000000 -> (zbr v).length + s.length < f ->
 ∃ f', s.length < f' /\ zer f st (zbr v ++ s) = zg1 (zer f') st v s
theorem yf1 (v : CV) : 0 < (zbr v).length := by
 cases v with
 | mk k n s l =>
   rw [zaj, List.length_append]
   show 0 < 1 + _
   omega
theorem zpt : ∀ l : List CV, l.length <= (zb2 l).length
 | [] => by simp
 | v :: l => by
   have := zpt l
   have := yf1 v
   rw [zb2, List.length_append, List.length_cons]
   omega
theorem zuu (st : List Lv) (s : List UInt8) : ∀ (l : List CV) (acc : List CV) (f : Nat), (∀ w ∈ l, yot w) -> zu9 l -> zcw l = true -> (st.length : Int) + 1 + zb7 l <= 6 -> (zb2 l).length <= 90000000 -> (zb2 l).length + s.length < f ->
   ∃ f', s.length < f' /\ zjj (zer f) (⟨(l.length : Int), acc⟩ :: st) (zb2 l ++ s) = zg1 (zer f') st (.mk 3 0 [] (acc ++ l)) s
 | [], acc, f, hr, hw, hb, hd, ht, hf => by
   refine ⟨f, by rw [zb2] at hf; simpa using hf, ?_⟩
   rw [zjj, if_pos (show ((List.length ([] : List CV) : Nat) : Int) = 0 from rfl), zb2, List.nil_append, List.append_nil]
 | v :: l, acc, f, hr, hw, hb, hd, ht, hf => by
   rw [zu9] at hw
   rw [zcw, Bool.and_eq_true] at hb
   rw [zb7] at hd
   rw [zb2, List.length_append] at ht hf
   obtain ⟨f1, h1, e1⟩ := hr v (by simp) (⟨((v :: l).length : Int), acc⟩ :: st) (zb2 l ++ s) f hw.1 hb.1 (by rw [List.length_cons]; omega) (by omega) (by rw [List.length_append]; omega)
   rw [List.length_append] at h1
   obtain ⟨f2, h2, e2⟩ := zuu st s l (acc ++ [v]) f1 (fun w hw => hr w (by simp [hw])) hw.2 hb.2 (by omega) (by omega) h1
   refine ⟨f2, h2, ?_⟩
   rw [zjj, if_neg (by simp; omega), zb2, List.append_assoc, e1]
   have e3 : (((v :: l).length : Int) - 1) = (l.length : Int) := by simp
   rw [zjj] at e2
   rw [zg1]
   simp only [e3]
   rw [e2, List.append_assoc, List.singleton_append]
theorem reads (v : CV) : yot v := by
 refine ydf (p := yot) (fun k n s l ih => ?_) v
 intro st r f hw hb hd ht hf
 rw [wfV] at hw
 obtain ⟨g, rfl⟩ : ∃ g, f = g + 1 := ⟨f - 1, by omega⟩
 rw [zaj] at ht hf |-
 rw [zds] at hb
 by_cases h1 : k = 1
 · subst h1
   rw [if_pos rfl] at hb ht hf |-
   simp only [Bool.and_eq_true, decide_eq_true_eq, List.isEmpty_iff] at hb
   obtain ⟨rfl, rfl⟩ := hb
   rw [List.length_append] at hf
   have e : zgb 1 = [1] := rfl
   rw [e] at hf |-
   refine ⟨g, by simp at hf; omega, ?_⟩
   rw [List.singleton_append, List.cons_append, zor hw.1 g st 1 r (by decide)]
   rfl
 · rw [if_neg h1] at hb ht hf |-
   by_cases h2 : k = 2
   · subst h2
     rw [if_pos rfl] at hb ht hf |-
     simp only [Bool.and_eq_true, decide_eq_true_eq, List.isEmpty_iff] at hb
     obtain ⟨rfl, rfl⟩ := hb
     rw [List.length_append, List.length_append] at ht hf
     have e : zgb 2 = [2] := rfl
     rw [e] at hf |-
     refine ⟨g, by simp at hf; omega, ?_⟩
     rw [List.singleton_append, List.cons_append, List.append_assoc, zor ⟨by omega, by omega⟩ g st 2 (s ++ r) (by decide)]
     rw [if_neg (by decide), if_pos (by decide), if_neg (by simp; omega)]
     rw [Int.toNat_natCast, List.take_left, List.drop_left]
   · rw [if_neg h2] at hb ht hf |-
     by_cases h3 : k = 3
     · subst h3
       rw [if_pos rfl] at hb
       simp only [Bool.and_eq_true, decide_eq_true_eq] at hb
       obtain ⟨⟨rfl, rfl⟩, hb⟩ := hb
       rw [zco, if_pos rfl] at hd
       rw [List.length_append, List.length_append] at ht hf
       have e : zgb 3 = [3] := rfl
       rw [e] at hf |-
       have hll := zpt l
       have hdn := (yns (.mk 3 0 [] l)).2
       have hdn : 0 <= zb7 l := hdn
       obtain ⟨f', h5, h6⟩ := zuu st r l [] g ih hw.2.2 hb (by omega) (by omega) (by simp at hf; omega)
       refine ⟨f', h5, ?_⟩
       rw [List.singleton_append, List.cons_append, List.append_assoc, zor ⟨by omega, by omega⟩ g st 3 (zb2 l ++ r) (by decide)]
       rw [if_neg (by decide), if_neg (by decide), if_neg (by omega), h6, List.nil_append]
     · rw [if_neg h3] at hb; cases hb
theorem yqy {v : CV} (h : zlc v = 0) : zds v = true /\ zco v <= 6 /\ (zbr v).length <= 8192 /\ zoj v = zbr v := by
 have ht : zoj v = zbr v := by unfold zoj; rw [if_pos h]
 unfold zlc at h
 split at h
 · rename_i h1
   split at h
   · cases h
   · rename_i h2
     split at h
     · cases h
     · rename_i h3
       exact ⟨h1, by omega, by omega, ht⟩
 · cases h
theorem zul {n : Nat} {get : Nat -> Nat -> AV} {l : List CV} (hn : n = l.length) (h : ∀ i j, i < n -> j < 4 -> get i j = zeh (zdo l i) j) : rdL (.lst 4 n get) = l /\ okL (.lst 4 n get) := by
 constructor
 · apply List.ext_getElem
   · rw [zih, hn]
   · intro i h1 h2
     have hi : i < n := by omega
     have e : ∀ m : List CV, ∀ hm : i < m.length, m[i] = zdo m i := fun m hm => by rw [zdo, List.getD_eq_getElem?_getD, List.getElem?_eq_getElem hm]; rfl
     rw [e _ h1, e _ h2, zq5 hi, h i 0 hi (by omega), h i 1 hi (by omega), h i 2 hi (by omega), h i 3 hi (by omega), zga, zg9, zg8, zg7]
     show CV.mk _ _ _ (rdL (.lst 4 (zmg (zdo l i)) (zkq (zdo l i)))) = _
     exact zbd _
 · refine ⟨rfl, fun i hi => ?_⟩
   rw [h i 0 hi (by omega), h i 1 hi (by omega), h i 2 hi (by omega), h i 3 hi (by omega), zga, zg9, zg8, zg7]
   exact ⟨⟨_, rfl⟩, ⟨_, rfl⟩, ⟨_, rfl⟩, (zf1 (zdo l i)).2⟩
def okG {α : Type} (V : Vw α) : AV -> Prop
 | .agg cs => cs.length = V.sz /\ V.ok (fun j => zbq .dead cs j)
 | _ => False
def rdG {α : Type} (V : Vw α) : AV -> α
 | .agg cs => V.rd (fun j => zbq .dead cs j)
 | _ => V.d
theorem yc0 (cs : List AV) (j : Nat) : zbq .dead cs j = (cs[j]?).getD .dead := by
 induction cs generalizing j with
 | nil => cases j <;> rfl
 | cons x l ih => cases j with
   | zero => rfl
   | succ j => exact ih j
theorem gK {α : Type} {V : Vw α} (K : znu V) (x : α) (cs : List AV) (h : cs = (List.range V.sz).map (V.cell std x)) : okG V (.agg cs) /\ rdG V (.agg cs) = x := by
 have h1 : ∀ j, j < V.sz -> zbq .dead cs j = V.cell std x j := fun j hj => by rw [yc0, h]; simp [hj]
 have h2 := K.back _ x h1
 exact ⟨⟨by simp [h], h2.1⟩, h2.2⟩
theorem G_R {α : Type} {V : Vw α} (K : znu V) {x : AV} (ho : okG V x) {h : Array Obj} {D : Nat -> Prop} {μ : Mu} {v : Value} (r : R h D μ x v) : R h D μ (.agg ((List.range V.sz).map (V.cell std (rdG V x)))) v := by
 match x, ho with
 | .agg cs, ho =>
   obtain ⟨us, rfl, o1, s1, hr⟩ := r.inv_agg
   refine .agg _ _ (by rw [<- s1]; simp [ho.1]) o1 fun i y w hy hw => ?_
   have hi : i < V.sz := by
     have := (List.getElem?_eq_some_iff.1 hy).1
     simpa using this
   simp [hi] at hy
   subst hy
   have hc : cs[i]? = some (zbq .dead cs i) := by
     rw [yc0, List.getElem?_eq_getElem (by rw [ho.1]; exact hi)]; rfl
   exact K.turn _ ho.2 i hi _ _ _ _ (hr i _ w hc hw)
theorem zk2 {α : Type} {V : Vw α} (K : znu V) {P : Program} {f : FuncId} {x r : AV} {q : List AV} (ho : okG V x) (h : za7 P f (.agg ((List.range V.sz).map (V.cell std (rdG V x))) :: q) r) : za7 P f (x :: q) r :=
 ze0 (fun h D vs hr => ylg (fun v => G_R K ho) hr) h
structure Rt where
 h : List UInt8
 p : List UInt8
 c : List UInt8
 i : Int
 deriving DecidableEq
structure Ep where
 pl : Pl
 w : Int
 deriving DecidableEq
structure Ls where
 n : List UInt8
 pl : Pl
 rs : List Rt
 deriving DecidableEq
structure Cl where
 n : List UInt8
 es : List Ep
 deriving DecidableEq
structure Cf where
 v : Int
 ls : List Ls
 cs : List Cl
 deriving DecidableEq
def plC (L : zaa) (x : Pl) : Nat -> AV
 | 0 => .int .u8 (L Pl.a x)
 | 1 => .int .u8 (L Pl.b x)
 | 2 => .int .u8 (L Pl.c x)
 | 3 => .int .u8 (L Pl.d x)
 | _ => .int .u16 (L Pl.p x)
def rdP (c : Nat -> AV) : Pl := ⟨(c 0).toI, (c 1).toI, (c 2).toI, (c 3).toI, (c 4).toI⟩
def yty (c : Nat -> AV) : Prop := isI .u8 (c 0) /\ isI .u8 (c 1) /\ isI .u8 (c 2) /\ isI .u8 (c 3) /\ isI .u16 (c 4)
def rtC (L : zaa) (x : Rt) : Nat -> AV
 | 0 => .str (L Rt.h x)
 | 1 => .str (L Rt.p x)
 | 2 => .str (L Rt.c x)
 | _ => .int .u64 (L Rt.i x)
def rtV : Vw Rt := ⟨4, rtC, fun c => ⟨zxa (c 0), zxa (c 1), zxa (c 2), (c 3).toI⟩, fun c => isS (c 0) /\ isS (c 1) /\ isS (c 2) /\ isI .u64 (c 3), ⟨[], [], [], 0⟩⟩
def zb5 (l : List Rt) (i : Nat) : Rt := zlg rtV l i
def zmo (L : zaa) (l : List Rt) : AV := .lst 4 (L zad l) (fun i => rtC L (L (L zb5 l) i))
def zsv (x : AV) : Prop := okW rtV x
def zk6 (x : AV) : List Rt := rdW rtV x
def zxh (x : AV) : Prop := okG rtV x
def zla (x : AV) : Rt := rdG rtV x
def epC (L : zaa) (x : Ep) : Nat -> AV
 | 5 => .int .i64 (L Ep.w x)
 | j => plC L (L Ep.pl x) j
def epV : Vw Ep := ⟨6, epC, fun c => ⟨rdP c, (c 5).toI⟩, fun c => yty c /\ isI .i64 (c 5), ⟨⟨0, 0, 0, 0, 0⟩, 0⟩⟩
def zb6 (l : List Ep) (i : Nat) : Ep := zlg epV l i
def zho (L : zaa) (l : List Ep) : AV := .lst 6 (L zad l) (fun i => epC L (L (L zb6 l) i))
def zk7 (x : AV) : Prop := okW epV x
def zhm (x : AV) : List Ep := rdW epV x
def zlf (x : AV) : Prop := okG epV x
def zij (x : AV) : Ep := rdG epV x
def lsC (L : zaa) (x : Ls) : Nat -> AV
 | 0 => .str (L Ls.n x)
 | 6 => zmo L (L Ls.rs x)
 | j + 1 => plC L (L Ls.pl x) j
def lsV : Vw Ls := ⟨7, lsC, fun c => ⟨zxa (c 0), rdP (fun j => c (j + 1)), rdW rtV (c 6)⟩, fun c => isS (c 0) /\ yty (fun j => c (j + 1)) /\ okW rtV (c 6), ⟨[], ⟨0, 0, 0, 0, 0⟩, []⟩⟩
def za4 (l : List Ls) (i : Nat) : Ls := zlg lsV l i
def zd3 (L : zaa) (l : List Ls) : AV := .lst 7 (L zad l) (fun i => lsC L (L (L za4 l) i))
def zoq (x : AV) : Prop := okW lsV x
def zii (x : AV) : List Ls := rdW lsV x
def zji (x : AV) : Prop := okG lsV x
def zf2 (x : AV) : Ls := rdG lsV x
def clC (L : zaa) (x : Cl) : Nat -> AV
 | 0 => .str (L Cl.n x)
 | _ => zho L (L Cl.es x)
def clV : Vw Cl := ⟨2, clC, fun c => ⟨zxa (c 0), rdW epV (c 1)⟩, fun c => isS (c 0) /\ okW epV (c 1), ⟨[], []⟩⟩
def za5 (l : List Cl) (i : Nat) : Cl := zlg clV l i
def zcn (L : zaa) (l : List Cl) : AV := .lst 2 (L zad l) (fun i => clC L (L (L za5 l) i))
def zjh (x : AV) : Prop := okW clV x
def zgh (x : AV) : List Cl := rdW clV x
def zhn (x : AV) : Prop := okG clV x
def zfz (x : AV) : Cl := rdG clV x
def cfC (L : zaa) (x : Cf) : Nat -> AV
 | 0 => .int .u64 (L Cf.v x)
 | 1 => zd3 L (L Cf.ls x)
 | _ => zcn L (L Cf.cs x)
def cfV : Vw Cf := ⟨3, cfC, fun c => ⟨(c 0).toI, rdW lsV (c 1), rdW clV (c 2)⟩, fun c => isI .u64 (c 0) /\ okW lsV (c 1) /\ okW clV (c 2), ⟨0, [], []⟩⟩
def zd2 (x : AV) : Prop := okG cfV x
def zah (x : AV) : Cf := rdG cfV x
theorem zea : znu rtV := by
 refine ⟨fun c hc j hj h D μ v r => ?_, fun c x hx => ?_⟩
 · obtain ⟨h0, h1, h2, h3⟩ := hc
   match j, hj with
   | 0, _ => exact zxv h0 r
   | 1, _ => exact zxv h1 r
   | 2, _ => exact zxv h2 r
   | 3, _ => exact zp5 h3 r
 · have e0 := hx 0 (by decide)
   have e1 := hx 1 (by decide)
   have e2 := hx 2 (by decide)
   have e3 := hx 3 (by decide)
   refine ⟨⟨⟨_, e0⟩, ⟨_, e1⟩, ⟨_, e2⟩, ⟨_, e3⟩⟩, ?_⟩
   show Rt.mk (zxa (c 0)) (zxa (c 1)) (zxa (c 2)) (c 3).toI = x
   rw [e0, e1, e2, e3]; rfl
theorem zf3 {c : Nat -> AV} (hc : yty c) {j : Nat} (hj : j < 5) {h : Array Obj} {D : Nat -> Prop} {μ : Mu} {v : Value} (r : R h D μ (c j) v) : R h D μ (plC std (rdP c) j) v := by
 obtain ⟨h0, h1, h2, h3, h4⟩ := hc
 match j, hj with
 | 0, _ => exact zp5 h0 r
 | 1, _ => exact zp5 h1 r
 | 2, _ => exact zp5 h2 r
 | 3, _ => exact zp5 h3 r
 | 4, _ => exact zp5 h4 r
theorem yb4 {c : Nat -> AV} {x : Pl} (hx : ∀ j, j < 5 -> c j = plC std x j) : yty c /\ rdP c = x := by
 have e0 := hx 0 (by decide)
 have e1 := hx 1 (by decide)
 have e2 := hx 2 (by decide)
 have e3 := hx 3 (by decide)
 have e4 := hx 4 (by decide)
 refine ⟨⟨⟨_, e0⟩, ⟨_, e1⟩, ⟨_, e2⟩, ⟨_, e3⟩, ⟨_, e4⟩⟩, ?_⟩
 unfold rdP
 rw [e0, e1, e2, e3, e4]; rfl
theorem zct : znu epV := by
 refine ⟨fun c hc j hj h D μ v r => ?_, fun c x hx => ?_⟩
 · obtain ⟨h0, h1⟩ := hc
   match j, hj with
   | 0, _ => exact zf3 h0 (by omega) r
   | 1, _ => exact zf3 h0 (by omega) r
   | 2, _ => exact zf3 h0 (by omega) r
   | 3, _ => exact zf3 h0 (by omega) r
   | 4, _ => exact zf3 h0 (by omega) r
   | 5, _ => exact zp5 h1 r
 · have e5 := hx 5 (by decide)
   have hp := yb4 (c := c) (x := x.pl) (fun j hj => by
     match j, hj with
     | 0, _ => exact hx 0 (by decide)
     | 1, _ => exact hx 1 (by decide)
     | 2, _ => exact hx 2 (by decide)
     | 3, _ => exact hx 3 (by decide)
     | 4, _ => exact hx 4 (by decide))
   refine ⟨⟨hp.1, ⟨_, e5⟩⟩, ?_⟩
   show Ep.mk (rdP c) (c 5).toI = x
   rw [hp.2, e5]; rfl
theorem zcd : znu lsV := by
 refine ⟨fun c hc j hj h D μ v r => ?_, fun c x hx => ?_⟩
 · obtain ⟨h0, h1, h2⟩ := hc
   match j, hj with
   | 0, _ => exact zxv h0 r
   | 1, _ => exact zf3 (c := fun j => c (j + 1)) h1 (j := 0) (by omega) r
   | 2, _ => exact zf3 (c := fun j => c (j + 1)) h1 (j := 1) (by omega) r
   | 3, _ => exact zf3 (c := fun j => c (j + 1)) h1 (j := 2) (by omega) r
   | 4, _ => exact zf3 (c := fun j => c (j + 1)) h1 (j := 3) (by omega) r
   | 5, _ => exact zf3 (c := fun j => c (j + 1)) h1 (j := 4) (by omega) r
   | 6, _ => exact zop zea h2 r
 · have e0 := hx 0 (by decide)
   have e6 := hx 6 (by decide)
   have hp := yb4 (c := fun j => c (j + 1)) (x := x.pl) (fun j hj => by
     match j, hj with
     | 0, _ => exact hx 1 (by decide)
     | 1, _ => exact hx 2 (by decide)
     | 2, _ => exact hx 3 (by decide)
     | 3, _ => exact hx 4 (by decide)
     | 4, _ => exact hx 5 (by decide))
   have e6 : c 6 = zvb std rtV x.rs := e6
   obtain ⟨k1, k2⟩ := zd1 zea x.rs
   rw [<- e6] at k1 k2
   refine ⟨⟨⟨_, e0⟩, hp.1, k1⟩, ?_⟩
   show Ls.mk (zxa (c 0)) (rdP fun j => c (j + 1)) (rdW rtV (c 6)) = x
   rw [hp.2, k2, e0]; rfl
theorem zc3 : znu clV := by
 refine ⟨fun c hc j hj h D μ v r => ?_, fun c x hx => ?_⟩
 · obtain ⟨h0, h1⟩ := hc
   match j, hj with
   | 0, _ => exact zxv h0 r
   | 1, _ => exact zop zct h1 r
 · have e0 := hx 0 (by decide)
   have e1 : c 1 = zvb std epV x.es := hx 1 (by decide)
   obtain ⟨k1, k2⟩ := zd1 zct x.es
   rw [<- e1] at k1 k2
   refine ⟨⟨⟨_, e0⟩, k1⟩, ?_⟩
   show Cl.mk (zxa (c 0)) (rdW epV (c 1)) = x
   rw [k2, e0]; rfl
theorem zbi : znu cfV := by
 refine ⟨fun c hc j hj h D μ v r => ?_, fun c x hx => ?_⟩
 · obtain ⟨h0, h1, h2⟩ := hc
   match j, hj with
   | 0, _ => exact zp5 h0 r
   | 1, _ => exact zop zcd h1 r
   | 2, _ => exact zop zc3 h2 r
 · have e0 := hx 0 (by decide)
   have e1 : c 1 = zvb std lsV x.ls := hx 1 (by decide)
   have e2 : c 2 = zvb std clV x.cs := hx 2 (by decide)
   obtain ⟨k1, k2⟩ := zd1 zcd x.ls
   obtain ⟨k3, k4⟩ := zd1 zc3 x.cs
   rw [<- e1] at k1 k2
   rw [<- e2] at k3 k4
   refine ⟨⟨⟨_, e0⟩, k1, k3⟩, ?_⟩
   show Cf.mk (c 0).toI (rdW lsV (c 1)) (rdW clV (c 2)) = x
   rw [k2, k4, e0]; rfl
def zrt {α : Type} (f : Nat) (ok : AV -> Prop) (rd : AV -> α) (pre : α -> Prop) (val : α -> CV) (L : zaa) : zbg := (f, fun xs => match xs with
 | [x] => some (L ok x /\ L pre (L rd x), cvA L (L val (L rd x)))
 | _ => none)
def zfn {α : Type} (l : List α) : Prop := l.length <= 1000000
def zz2 {α : Type} (p : α -> Prop) (l : List α) : Prop := ∀ x ∈ l, p x
def zpg {α : Type} (val : α -> CV) (l : List α) : CV := zdl (l.map val)
def zk9 {α : Type} (f g : Nat) (ok : AV -> Prop) (rd : AV -> List α) (pre : List α -> Prop) (val : List α -> CV) (L : zaa) : zbg := (f, fun xs => match xs with
 | [x, .fn k [] []] => match zaq k g with
   | true => some (L ok x /\ L zfn (L rd x) /\ L pre (L rd x), cvA L (L val (L rd x)))
   | false => none
 | _ => none)
def yht {α : Type} (L : zaa) (nth : List α -> Nat -> α) (val : α -> CV) (l : List α) : Nat -> St -> Option Ann := fun id st => match id with
 | 0 => some ⟨Nat, fun i => [(10, .int .i64 (L zav i)), (4, .ref 4 0), (5, .sl 900 4 0 i)], fun i => [(900, .row 136 4 i (fun q j => cv1 L (L val (L (L nth l) q)) j)), (4, .box 136 [.dead, .dead, .dead, .dead])], [0, 1, 8, 9], [],
     fun i => L2 L (fun (l : List α) i => i <= l.length) l i, fun i => L2 L (fun (l : List α) (i : Nat) => l.length - i) l i⟩
 | _ => none
theorem zin {α : Type} {V : Vw α} (val : α -> CV) {l : List α} {i : Nat} (h : i < l.length) : zdo (l.map val) i = val (zlg V l i) := by
 rw [zak h, zdo, List.getD_eq_getElem?_getD, List.getElem?_eq_getElem (by simpa using h)]; simp
theorem zko {α : Type} {V : Vw α} {val : α -> CV} {l : List α} {n : Nat} (h : n = l.length) :
   rdL (.lst 4 n fun q j => cv1 std (val (zlg V l q)) j) = l.map val /\ okL (.lst 4 n fun q j => cv1 std (val (zlg V l q)) j) :=
 zul (by simpa using h) fun i j hi hj => by rw [ztu _ _ hj, zin (V := V) val (by omega)]
def zgo (x : Rt) : CV := zdl [zh9 x.h, zh9 x.p, zh9 x.c, zgd x.i]
def zh2 (x : Ep) : CV := zdl [zh9 (plB x.pl), zgd (x.w % 18446744073709551616)]
def zwt (x : Rt) : Prop := True
def zy9 (x : Ep) : Prop := zqe x.pl
def zq3 (l : List Rt) : CV := zpg zgo l
def zr7 (l : List Ep) : CV := zpg zh2 l
def yj0 (l : List Rt) : Prop := zz2 zwt l
def yd7 (l : List Ep) : Prop := zz2 zy9 l
def zvy : List CV -> List AV
 | [] => []
 | v :: l => .int .i64 v.kd :: .int .u64 v.nn :: .str v.tx :: .lst 4 (zmg v) (zkq v) :: zvy l
theorem zrf : ∀ (l : List CV) (i j : Nat), i < l.length -> j < 4 -> zbq .dead (zvy l) (i * 4 + j) = zeh (zdo l i) j
 | [], i, j, hi, _ => by simp at hi
 | v :: l, 0, j, _, hj => by
   match j, hj with
   | 0, _ => exact (zga v).symm
   | 1, _ => exact (zg9 v).symm
   | 2, _ => exact (zg8 v).symm
   | 3, _ => exact (zg7 v).symm
 | v :: l, i + 1, j, hi, hj => by
   rw [show (i + 1) * 4 + j = i * 4 + j + 4 by omega]
   exact zrf l i j (by simpa using hi) hj
theorem zm6 (l : List CV) {n : Nat} {cs : List AV} (hn : n = l.length) (h : cs = zvy l) : rdL (.lst 4 n fun i j => zbq .dead cs (i * 4 + j)) = l /\ okL (.lst 4 n fun i j => zbq .dead cs (i * 4 + j)) :=
 zul hn fun i j hi hj => by rw [h]; exact zrf l i j (by omega) hj
theorem zrd {v w : CV} (h : v = w) : zic (cvA std v) (.agg [.int .i64 w.kd, .int .u64 w.nn, .str w.tx, .lst 4 (zmg w) (zkq w)]) := by
 subst h
 show zic (.agg [.int .i64 v.kd, .int .u64 v.nn, .str v.tx, .lst 4 (zmg v) (zkq v)]) _
 simp [zh1, zdh, ze4, ze5, zcs]
theorem zjc (l : List CV) {v : CV} {n : Nat} {cs : List AV} (hv : v = zdl l) (hn : n = l.length) (hl : l.length <= 4) (h : cs = zvy l) :
   (okL (.lst 4 n fun i j => zbq .dead cs (i * 4 + j)) /\ yc1 (rdL (.lst 4 n fun i j => zbq .dead cs (i * 4 + j)))) /\
   ∀ {w : CV}, w = zdl (rdL (.lst 4 n fun i j => zbq .dead cs (i * 4 + j))) -> zic (cvA std v) (.agg [.int .i64 w.kd, .int .u64 w.nn, .str w.tx, .lst 4 (zmg w) (zkq w)]) := by
 obtain ⟨k1, k2⟩ := zm6 l hn h
 refine ⟨⟨k2, ?_⟩, fun {w} hw => zrd ?_⟩
 · rw [k1]
   show l.length <= 1000000
   omega
 · rw [hw, k1, hv]
theorem zx0 : zaz Tryz.prog (zrt 130 zxh zla zwt zgo std) := by
 intro xs p r h hp
 dsimp only [zrt] at h |-
 split at h <;> cases h
 try simp only [L2, L3, std] at hp |-
 rename_i x
 refine zk2 zea hp.1 ?_
 have hp := hp.2
 show za7 _ _ _ (cvA std (zgo (rdG rtV x)))
 have hp : zwt (rdG rtV x) := hp
 generalize rdG rtV x = y at hp |-
 refine za2 (T := tt) (S := fun L => zao [zwa L, zxk L, zge L]) (lo := fun _ => noA std) (lb := noA) 5 (fn := Tryz.f130) (xs := fun L => [.agg [.str (L Rt.h y), .str (L Rt.p y), .str (L Rt.c y), .int .u64 (L Rt.i y)]]) rfl rfl (by kernel_rfl) (by kernel_rfl) rfl zab (za3 ⟨zkb, zke, zce, trivial⟩) (by kernel_rfl) ?_
 intro L P' Q' hL hP hQ
 (cbv; try simp only [syT, true_and, and_true])
 (subst hL; subst hQ; simp only [L2, L3, std] at *; try simp only [syS, reduceCtorEq, Int.reduceToNat, Int.reduceAdd, Int.reduceSub] at *)
 exact ⟨(zjc [zh9 y.h, zh9 y.p, zh9 y.c, zgd y.i] (v := zgo y) (n := 4) rfl rfl (Nat.le_of_ble_eq_true rfl) rfl).1, (zjc [zh9 y.h, zh9 y.p, zh9 y.c, zgd y.i] (v := zgo y) (n := 4) rfl rfl (Nat.le_of_ble_eq_true rfl) rfl).2 rfl⟩
theorem zpe : zaz Tryz.prog (zrt 132 zlf zij zy9 zh2 std) := by
 intro xs p r h hp
 dsimp only [zrt] at h |-
 split at h <;> cases h
 try simp only [L2, L3, std] at hp |-
 rename_i x
 refine zk2 zct hp.1 ?_
 have hp := hp.2
 show za7 _ _ _ (cvA std (zh2 (rdG epV x)))
 have hp : zy9 (rdG epV x) := hp
 generalize rdG epV x = y at hp |-
 refine za2 (T := tt) (S := fun L => zao [zwa L, zxk L, zge L, zpk L]) (lo := fun _ => noA std) (lb := noA) 5 (fn := Tryz.f132) (xs := fun L => [.agg [.int .u8 (L Pl.a (L Ep.pl y)), .int .u8 (L Pl.b (L Ep.pl y)), .int .u8 (L Pl.c (L Ep.pl y)), .int .u8 (L Pl.d (L Ep.pl y)), .int .u16 (L Pl.p (L Ep.pl y)), .int .i64 (L Ep.w y)]]) rfl rfl (by kernel_rfl) (by kernel_rfl) rfl zab (za3 ⟨zkb, zke, zce, znn, trivial⟩) (by kernel_rfl) ?_
 intro L P' Q' hL hP hQ
 (cbv; try simp only [syT, true_and, and_true])
 (subst hL; subst hQ; simp only [L2, L3, std] at *; try simp only [syS, reduceCtorEq, Int.reduceToNat, Int.reduceAdd, Int.reduceSub] at *)
 refine ⟨hp, (zjc [zh9 (plB y.pl), zgd (y.w % 18446744073709551616)] (v := zh2 y) (n := 2) rfl rfl (Nat.le_of_ble_eq_true rfl) rfl).1, (zjc [zh9 (plB y.pl), zgd (y.w % 18446744073709551616)] (v := zh2 y) (n := 2) rfl rfl (Nat.le_of_ble_eq_true rfl) rfl).2 rfl⟩
theorem zto (ih : zaz Tryz.prog (zrt 130 zxh zla zwt zgo std)) : zaz Tryz.prog (zk9 129 130 zsv zk6 yj0 zq3 std) := by
 intro xs p r h hp
 unfold zk9 at h
 simp only at h
 split at h
 rotate_left
 · cases h
 rename_i x k
 cases hk : zaq k 130 with
 | false => rw [hk] at h; cases h
 | true =>
 rw [hk] at h
 obtain rfl : k = 130 := of_decide_eq_true hk
 cases h
 obtain ⟨ho, hz, ha⟩ := hp
 refine zka zea ho ?_
 have hz : zfn (rdW rtV x) := hz
 have ha : zz2 zwt (rdW rtV x) := ha
 show za7 _ _ _ (cvA std (zpg zgo (rdW rtV x)))
 generalize rdW rtV x = l at hz ha |-
 refine za2 (T := tt) (S := fun L => zao [zrt 130 zxh zla zwt zgo L, zge L]) (lo := fun L => yht L zb5 zgo l) (lb := noA) 5 (fn := Tryz.f129) (xs := fun L => [zmo L l, .fn 130 [] []]) rfl rfl (by kernel_rfl) (by kernel_rfl) rfl zab
   (za3 ⟨ih, zce, trivial⟩) (by kernel_rfl) ?_
 intro L P' Q' hL hP hQ
 (cbv; try simp only [syT, true_and, and_true])
 refine ⟨⟨0, ?_⟩, fun i hi => ?_⟩
 · (cbv; try simp only [syT, true_and, and_true])
   (subst hL; subst hQ; simp only [L2, L3, std] at *; try simp only [syS, reduceCtorEq, Int.reduceToNat, Int.reduceAdd, Int.reduceSub] at *)
   exact Nat.zero_le _
 · cbv at hi
   have hG : ∀ y : Rt, L zla (.agg [.str (L Rt.h y), .str (L Rt.p y), .str (L Rt.c y), .int .u64 (L Rt.i y)]) = y := by subst hL; exact fun y => (gK zea y _ rfl).2
   have hO : ∀ y : Rt, L zxh (.agg [.str (L Rt.h y), .str (L Rt.p y), .str (L Rt.c y), .int .u64 (L Rt.i y)]) := by subst hL; exact fun y => (gK zea y _ rfl).1
   (cbv; try simp only [syT, true_and, and_true])
   simp only [hG, hO, true_and]
   refine ⟨fun hlt => ⟨?_, ?_, ?_, ⟨i + 1, ?_⟩⟩, fun hge => ?_⟩
   · (subst hL; subst hQ; simp only [L2, L3, std] at *; try simp only [syS, reduceCtorEq, Int.reduceToNat, Int.reduceAdd, Int.reduceSub] at *)
     omega
   · (subst hL; subst hQ; simp only [L2, L3, std] at *; try simp only [syS, reduceCtorEq, Int.reduceToNat, Int.reduceAdd, Int.reduceSub] at *)
     exact ha _ (by rw [zb5, zak (V := rtV) (by have : zad l = l.length := rfl; omega)]; exact List.getElem_mem _)
   · (subst hL; subst hQ; simp only [L2, L3, std] at *; try simp only [syS, reduceCtorEq, Int.reduceToNat, Int.reduceAdd, Int.reduceSub] at *)
     have : zad l = l.length := rfl
     have : l.length <= 1000000 := hz
     omega
   · (cbv; try simp only [syT, true_and, and_true])
     try simp only [hG]
     (subst hL; subst hQ; simp only [L2, L3, std] at *; try simp only [syS, reduceCtorEq, Int.reduceToNat, Int.reduceAdd, Int.reduceSub] at *)
     have : zad l = l.length := rfl
     have : l.length <= 1000000 := hz
     exact ⟨fun q j hq hj => zph (fun q => zgo (zb5 l q)) hq hj, by omega, by omega, by omega⟩
   · (subst hL; subst hQ; simp only [L2, L3, std] at *; try simp only [syS, reduceCtorEq, Int.reduceToNat, Int.reduceAdd, Int.reduceSub] at *)
     have : zad l = l.length := rfl
     obtain ⟨k1, k2⟩ := zko (V := rtV) (val := zgo) (l := l) (n := i) (by omega)
     refine ⟨⟨k2, ?_⟩, zrd ?_⟩
     · show List.length _ <= 1000000
       have k1 : rdL (.lst 4 i fun q j => cv1 std (zgo (zb5 l q)) j) = l.map zgo := k1
       rw [k1, List.length_map]; exact hz
     · exact (congrArg zdl k1).symm
theorem ztq (ih : zaz Tryz.prog (zrt 132 zlf zij zy9 zh2 std)) : zaz Tryz.prog (zk9 131 132 zk7 zhm yd7 zr7 std) := by
 intro xs p r h hp
 unfold zk9 at h
 simp only at h
 split at h
 rotate_left
 · cases h
 rename_i x k
 cases hk : zaq k 132 with
 | false => rw [hk] at h; cases h
 | true =>
 rw [hk] at h
 obtain rfl : k = 132 := of_decide_eq_true hk
 cases h
 obtain ⟨ho, hz, ha⟩ := hp
 refine zka zct ho ?_
 have hz : zfn (rdW epV x) := hz
 have ha : zz2 zy9 (rdW epV x) := ha
 show za7 _ _ _ (cvA std (zpg zh2 (rdW epV x)))
 generalize rdW epV x = l at hz ha |-
 refine za2 (T := tt) (S := fun L => zao [zrt 132 zlf zij zy9 zh2 L, zge L]) (lo := fun L => yht L zb6 zh2 l) (lb := noA) 5 (fn := Tryz.f131) (xs := fun L => [zho L l, .fn 132 [] []]) rfl rfl (by kernel_rfl) (by kernel_rfl) rfl zab
   (za3 ⟨ih, zce, trivial⟩) (by kernel_rfl) ?_
 intro L P' Q' hL hP hQ
 (cbv; try simp only [syT, true_and, and_true])
 refine ⟨⟨0, ?_⟩, fun i hi => ?_⟩
 · (cbv; try simp only [syT, true_and, and_true])
   (subst hL; subst hQ; simp only [L2, L3, std] at *; try simp only [syS, reduceCtorEq, Int.reduceToNat, Int.reduceAdd, Int.reduceSub] at *)
   exact Nat.zero_le _
 · cbv at hi
   have hG : ∀ y : Ep, L zij (.agg [.int .u8 (L Pl.a (L Ep.pl y)), .int .u8 (L Pl.b (L Ep.pl y)), .int .u8 (L Pl.c (L Ep.pl y)), .int .u8 (L Pl.d (L Ep.pl y)), .int .u16 (L Pl.p (L Ep.pl y)), .int .i64 (L Ep.w y)]) = y := by subst hL; exact fun y => (gK zct y _ rfl).2
   have hO : ∀ y : Ep, L zlf (.agg [.int .u8 (L Pl.a (L Ep.pl y)), .int .u8 (L Pl.b (L Ep.pl y)), .int .u8 (L Pl.c (L Ep.pl y)), .int .u8 (L Pl.d (L Ep.pl y)), .int .u16 (L Pl.p (L Ep.pl y)), .int .i64 (L Ep.w y)]) := by subst hL; exact fun y => (gK zct y _ rfl).1
   (cbv; try simp only [syT, true_and, and_true])
   simp only [hG, hO, true_and]
   refine ⟨fun hlt => ⟨?_, ?_, ?_, ⟨i + 1, ?_⟩⟩, fun hge => ?_⟩
   · (subst hL; subst hQ; simp only [L2, L3, std] at *; try simp only [syS, reduceCtorEq, Int.reduceToNat, Int.reduceAdd, Int.reduceSub] at *)
     omega
   · (subst hL; subst hQ; simp only [L2, L3, std] at *; try simp only [syS, reduceCtorEq, Int.reduceToNat, Int.reduceAdd, Int.reduceSub] at *)
     exact ha _ (by rw [zb6, zak (V := epV) (by have : zad l = l.length := rfl; omega)]; exact List.getElem_mem _)
   · (subst hL; subst hQ; simp only [L2, L3, std] at *; try simp only [syS, reduceCtorEq, Int.reduceToNat, Int.reduceAdd, Int.reduceSub] at *)
     have : zad l = l.length := rfl
     have : l.length <= 1000000 := hz
     omega
   · (cbv; try simp only [syT, true_and, and_true])
     try simp only [hG]
     (subst hL; subst hQ; simp only [L2, L3, std] at *; try simp only [syS, reduceCtorEq, Int.reduceToNat, Int.reduceAdd, Int.reduceSub] at *)
     have : zad l = l.length := rfl
     have : l.length <= 1000000 := hz
     exact ⟨fun q j hq hj => zph (fun q => zh2 (zb6 l q)) hq hj, by omega, by omega, by omega⟩
   · (subst hL; subst hQ; simp only [L2, L3, std] at *; try simp only [syS, reduceCtorEq, Int.reduceToNat, Int.reduceAdd, Int.reduceSub] at *)
     have : zad l = l.length := rfl
     obtain ⟨k1, k2⟩ := zko (V := epV) (val := zh2) (l := l) (n := i) (by omega)
     refine ⟨⟨k2, ?_⟩, zrd ?_⟩
     · show List.length _ <= 1000000
       have k1 : rdL (.lst 4 i fun q j => cv1 std (zh2 (zb6 l q)) j) = l.map zh2 := k1
       rw [k1, List.length_map]; exact hz
     · exact (congrArg zdl k1).symm
def zhp (x : Ls) : CV := zdl [zh9 x.n, zh9 (plB x.pl), zq3 x.rs]
def zhr (x : Cl) : CV := zdl [zh9 x.n, zr7 x.es]
def zxr (x : Ls) : Prop := zqe x.pl /\ zfn x.rs
def zyg (x : Cl) : Prop := zfn x.es /\ yd7 x.es
def zvc (l : List Ls) : CV := zpg zhp l
def zvw (l : List Cl) : CV := zpg zhr l
def yjg (l : List Ls) : Prop := zz2 zxr l
def yjw (l : List Cl) : Prop := zz2 zyg l
theorem yli (l : List Rt) : zk6 (.lst 4 (zad l) fun i => rtC std (zb5 l i)) = l := (zd1 zea l).2
theorem yly (l : List Rt) : zsv (.lst 4 (zad l) fun i => rtC std (zb5 l i)) := (zd1 zea l).1
theorem yar (l : List Ep) : zhm (.lst 6 (zad l) fun i => epC std (zb6 l i)) = l := (zd1 zct l).2
theorem ybf (l : List Ep) : zk7 (.lst 6 (zad l) fun i => epC std (zb6 l i)) := (zd1 zct l).1
theorem ylj (l : List Ls) : zii (.lst 7 (zad l) fun i => lsC std (za4 l i)) = l := (zd1 zcd l).2
theorem ylz (l : List Ls) : zoq (.lst 7 (zad l) fun i => lsC std (za4 l i)) := (zd1 zcd l).1
theorem yas (l : List Cl) : zgh (.lst 2 (zad l) fun i => clC std (za5 l i)) = l := (zd1 zc3 l).2
theorem ybg (l : List Cl) : zjh (.lst 2 (zad l) fun i => clC std (za5 l i)) := (zd1 zc3 l).1
theorem zoz : zaz Tryz.prog (zrt 79 zji zf2 zxr zhp std) := by
 intro xs p r h hp
 dsimp only [zrt] at h |-
 split at h <;> cases h
 try simp only [L2, L3, std] at hp |-
 rename_i x
 refine zk2 zcd hp.1 ?_
 have hp := hp.2
 show za7 _ _ _ (cvA std (zhp (rdG lsV x)))
 have hp : zxr (rdG lsV x) := hp
 generalize rdG lsV x = y at hp |-
 refine za2 (T := tt) (S := fun L => zao [zwa L, zge L, zpk L, zk9 129 130 zsv zk6 yj0 zq3 L]) (lo := fun _ => noA std) (lb := noA) 5 (fn := Tryz.f79) (xs := fun L => [.agg [.str (L Ls.n y), .int .u8 (L Pl.a (L Ls.pl y)), .int .u8 (L Pl.b (L Ls.pl y)), .int .u8 (L Pl.c (L Ls.pl y)), .int .u8 (L Pl.d (L Ls.pl y)), .int .u16 (L Pl.p (L Ls.pl y)), zmo L (L Ls.rs y)]]) rfl rfl (by kernel_rfl) (by kernel_rfl) rfl zab (za3 ⟨zkb, zce, znn, zto zx0, trivial⟩) (by kernel_rfl) ?_
 intro L P' Q' hL hP hQ
 (cbv; try simp only [syT, true_and, and_true])
 (subst hL; subst hQ; simp only [L2, L3, std] at *; try simp only [syS, reduceCtorEq, Int.reduceToNat, Int.reduceAdd, Int.reduceSub] at *)
 simp only [yli]
 obtain ⟨k1, k2⟩ := zjc [zh9 y.n, zh9 (plB y.pl), zq3 y.rs] (v := zhp y) (n := 3) rfl rfl (Nat.le_of_ble_eq_true rfl) rfl
 exact ⟨hp.1, ⟨yly _, hp.2, fun _ _ => trivial⟩, k1, k2 rfl⟩
theorem zre : zaz Tryz.prog (zrt 81 zhn zfz zyg zhr std) := by
 intro xs p r h hp
 dsimp only [zrt] at h |-
 split at h <;> cases h
 try simp only [L2, L3, std] at hp |-
 rename_i x
 refine zk2 zc3 hp.1 ?_
 have hp := hp.2
 show za7 _ _ _ (cvA std (zhr (rdG clV x)))
 have hp : zyg (rdG clV x) := hp
 generalize rdG clV x = y at hp |-
 refine za2 (T := tt) (S := fun L => zao [zwa L, zge L, zk9 131 132 zk7 zhm yd7 zr7 L]) (lo := fun _ => noA std) (lb := noA) 5 (fn := Tryz.f81) (xs := fun L => [.agg [.str (L Cl.n y), zho L (L Cl.es y)]]) rfl rfl (by kernel_rfl) (by kernel_rfl) rfl zab (za3 ⟨zkb, zce, ztq zpe, trivial⟩) (by kernel_rfl) ?_
 intro L P' Q' hL hP hQ
 (cbv; try simp only [syT, true_and, and_true])
 (subst hL; subst hQ; simp only [L2, L3, std] at *; try simp only [syS, reduceCtorEq, Int.reduceToNat, Int.reduceAdd, Int.reduceSub] at *)
 simp only [yar]
 obtain ⟨k1, k2⟩ := zjc [zh9 y.n, zr7 y.es] (v := zhr y) (n := 2) rfl rfl (Nat.le_of_ble_eq_true rfl) rfl
 exact ⟨⟨ybf _, hp.1, hp.2⟩, k1, k2 rfl⟩
theorem ztp (ih : zaz Tryz.prog (zrt 79 zji zf2 zxr zhp std)) : zaz Tryz.prog (zk9 78 79 zoq zii yjg zvc std) := by
 intro xs p r h hp
 unfold zk9 at h
 simp only at h
 split at h
 rotate_left
 · cases h
 rename_i x k
 cases hk : zaq k 79 with
 | false => rw [hk] at h; cases h
 | true =>
 rw [hk] at h
 obtain rfl : k = 79 := of_decide_eq_true hk
 cases h
 obtain ⟨ho, hz, ha⟩ := hp
 refine zka zcd ho ?_
 have hz : zfn (rdW lsV x) := hz
 have ha : zz2 zxr (rdW lsV x) := ha
 show za7 _ _ _ (cvA std (zpg zhp (rdW lsV x)))
 generalize rdW lsV x = l at hz ha |-
 refine za2 (T := tt) (S := fun L => zao [zrt 79 zji zf2 zxr zhp L, zge L]) (lo := fun L => yht L za4 zhp l) (lb := noA) 5 (fn := Tryz.f78) (xs := fun L => [zd3 L l, .fn 79 [] []]) rfl rfl (by kernel_rfl) (by kernel_rfl) rfl zab
   (za3 ⟨ih, zce, trivial⟩) (by kernel_rfl) ?_
 intro L P' Q' hL hP hQ
 (cbv; try simp only [syT, true_and, and_true])
 refine ⟨⟨0, ?_⟩, fun i hi => ?_⟩
 · (cbv; try simp only [syT, true_and, and_true])
   (subst hL; subst hQ; simp only [L2, L3, std] at *; try simp only [syS, reduceCtorEq, Int.reduceToNat, Int.reduceAdd, Int.reduceSub] at *)
   exact Nat.zero_le _
 · cbv at hi
   have hG : ∀ y : Ls, L zf2 (.agg [.str (L Ls.n y), .int .u8 (L Pl.a (L Ls.pl y)), .int .u8 (L Pl.b (L Ls.pl y)), .int .u8 (L Pl.c (L Ls.pl y)), .int .u8 (L Pl.d (L Ls.pl y)), .int .u16 (L Pl.p (L Ls.pl y)), .lst 4 (L zad (L Ls.rs y)) (fun i => rtC L (L (L zb5 (L Ls.rs y)) i))]) = y := by subst hL; exact fun y => (gK zcd y _ rfl).2
   have hO : ∀ y : Ls, L zji (.agg [.str (L Ls.n y), .int .u8 (L Pl.a (L Ls.pl y)), .int .u8 (L Pl.b (L Ls.pl y)), .int .u8 (L Pl.c (L Ls.pl y)), .int .u8 (L Pl.d (L Ls.pl y)), .int .u16 (L Pl.p (L Ls.pl y)), .lst 4 (L zad (L Ls.rs y)) (fun i => rtC L (L (L zb5 (L Ls.rs y)) i))]) := by subst hL; exact fun y => (gK zcd y _ rfl).1
   (cbv; try simp only [syT, true_and, and_true])
   simp only [hG, hO, true_and]
   refine ⟨fun hlt => ⟨?_, ?_, ?_, ⟨i + 1, ?_⟩⟩, fun hge => ?_⟩
   · (subst hL; subst hQ; simp only [L2, L3, std] at *; try simp only [syS, reduceCtorEq, Int.reduceToNat, Int.reduceAdd, Int.reduceSub] at *)
     omega
   · (subst hL; subst hQ; simp only [L2, L3, std] at *; try simp only [syS, reduceCtorEq, Int.reduceToNat, Int.reduceAdd, Int.reduceSub] at *)
     exact ha _ (by rw [za4, zak (V := lsV) (by have : zad l = l.length := rfl; omega)]; exact List.getElem_mem _)
   · (subst hL; subst hQ; simp only [L2, L3, std] at *; try simp only [syS, reduceCtorEq, Int.reduceToNat, Int.reduceAdd, Int.reduceSub] at *)
     have : zad l = l.length := rfl
     have : l.length <= 1000000 := hz
     omega
   · (cbv; try simp only [syT, true_and, and_true])
     try simp only [hG]
     (subst hL; subst hQ; simp only [L2, L3, std] at *; try simp only [syS, reduceCtorEq, Int.reduceToNat, Int.reduceAdd, Int.reduceSub] at *)
     have : zad l = l.length := rfl
     have : l.length <= 1000000 := hz
     exact ⟨fun q j hq hj => zph (fun q => zhp (za4 l q)) hq hj, by omega, by omega, by omega⟩
   · (subst hL; subst hQ; simp only [L2, L3, std] at *; try simp only [syS, reduceCtorEq, Int.reduceToNat, Int.reduceAdd, Int.reduceSub] at *)
     have : zad l = l.length := rfl
     obtain ⟨k1, k2⟩ := zko (V := lsV) (val := zhp) (l := l) (n := i) (by omega)
     refine ⟨⟨k2, ?_⟩, zrd ?_⟩
     · show List.length _ <= 1000000
       have k1 : rdL (.lst 4 i fun q j => cv1 std (zhp (za4 l q)) j) = l.map zhp := k1
       rw [k1, List.length_map]; exact hz
     · exact (congrArg zdl k1).symm
theorem ztr (ih : zaz Tryz.prog (zrt 81 zhn zfz zyg zhr std)) : zaz Tryz.prog (zk9 80 81 zjh zgh yjw zvw std) := by
 intro xs p r h hp
 unfold zk9 at h
 simp only at h
 split at h
 rotate_left
 · cases h
 rename_i x k
 cases hk : zaq k 81 with
 | false => rw [hk] at h; cases h
 | true =>
 rw [hk] at h
 obtain rfl : k = 81 := of_decide_eq_true hk
 cases h
 obtain ⟨ho, hz, ha⟩ := hp
 refine zka zc3 ho ?_
 have hz : zfn (rdW clV x) := hz
 have ha : zz2 zyg (rdW clV x) := ha
 show za7 _ _ _ (cvA std (zpg zhr (rdW clV x)))
 generalize rdW clV x = l at hz ha |-
 refine za2 (T := tt) (S := fun L => zao [zrt 81 zhn zfz zyg zhr L, zge L]) (lo := fun L => yht L za5 zhr l) (lb := noA) 5 (fn := Tryz.f80) (xs := fun L => [zcn L l, .fn 81 [] []]) rfl rfl (by kernel_rfl) (by kernel_rfl) rfl zab
   (za3 ⟨ih, zce, trivial⟩) (by kernel_rfl) ?_
 intro L P' Q' hL hP hQ
 (cbv; try simp only [syT, true_and, and_true])
 refine ⟨⟨0, ?_⟩, fun i hi => ?_⟩
 · (cbv; try simp only [syT, true_and, and_true])
   (subst hL; subst hQ; simp only [L2, L3, std] at *; try simp only [syS, reduceCtorEq, Int.reduceToNat, Int.reduceAdd, Int.reduceSub] at *)
   exact Nat.zero_le _
 · cbv at hi
   have hG : ∀ y : Cl, L zfz (.agg [.str (L Cl.n y), .lst 6 (L zad (L Cl.es y)) (fun i => epC L (L (L zb6 (L Cl.es y)) i))]) = y := by subst hL; exact fun y => (gK zc3 y _ rfl).2
   have hO : ∀ y : Cl, L zhn (.agg [.str (L Cl.n y), .lst 6 (L zad (L Cl.es y)) (fun i => epC L (L (L zb6 (L Cl.es y)) i))]) := by subst hL; exact fun y => (gK zc3 y _ rfl).1
   (cbv; try simp only [syT, true_and, and_true])
   simp only [hG, hO, true_and]
   refine ⟨fun hlt => ⟨?_, ?_, ?_, ⟨i + 1, ?_⟩⟩, fun hge => ?_⟩
   · (subst hL; subst hQ; simp only [L2, L3, std] at *; try simp only [syS, reduceCtorEq, Int.reduceToNat, Int.reduceAdd, Int.reduceSub] at *)
     omega
   · (subst hL; subst hQ; simp only [L2, L3, std] at *; try simp only [syS, reduceCtorEq, Int.reduceToNat, Int.reduceAdd, Int.reduceSub] at *)
     exact ha _ (by rw [za5, zak (V := clV) (by have : zad l = l.length := rfl; omega)]; exact List.getElem_mem _)
   · (subst hL; subst hQ; simp only [L2, L3, std] at *; try simp only [syS, reduceCtorEq, Int.reduceToNat, Int.reduceAdd, Int.reduceSub] at *)
     have : zad l = l.length := rfl
     have : l.length <= 1000000 := hz
     omega
   · (cbv; try simp only [syT, true_and, and_true])
     try simp only [hG]
     (subst hL; subst hQ; simp only [L2, L3, std] at *; try simp only [syS, reduceCtorEq, Int.reduceToNat, Int.reduceAdd, Int.reduceSub] at *)
     have : zad l = l.length := rfl
     have : l.length <= 1000000 := hz
     exact ⟨fun q j hq hj => zph (fun q => zhr (za5 l q)) hq hj, by omega, by omega, by omega⟩
   · (subst hL; subst hQ; simp only [L2, L3, std] at *; try simp only [syS, reduceCtorEq, Int.reduceToNat, Int.reduceAdd, Int.reduceSub] at *)
     have : zad l = l.length := rfl
     obtain ⟨k1, k2⟩ := zko (V := clV) (val := zhr) (l := l) (n := i) (by omega)
     refine ⟨⟨k2, ?_⟩, zrd ?_⟩
     · show List.length _ <= 1000000
       have k1 : rdL (.lst 4 i fun q j => cv1 std (zhr (za5 l q)) j) = l.map zhr := k1
       rw [k1, List.length_map]; exact hz
     · exact (congrArg zdl k1).symm
def prS {α : Type} (f : Nat) (ok : AV -> Prop) (rd : AV -> α) (p : α -> Bool) (pre : α -> Prop) (L : zaa) : zbg := (f, fun xs => match xs with
 | [x] => some (L ok x /\ L pre (L rd x), .bool (L p (L rd x)))
 | _ => none)
def zyy {α : Type} (f g : Nat) (ok : AV -> Prop) (rd : AV -> List α) (idx : List α -> Int) (pre : List α -> Prop) (L : zaa) : zbg := (f, fun xs => match xs with
 | [x, .fn k [] []] => match zaq k g with
   | true => some (L ok x /\ L zfn (L rd x) /\ L pre (L rd x), .int .i64 (L idx (L rd x)))
   | false => none
 | _ => none)
def zz1 {α : Type} (f g : Nat) (ok : AV -> Prop) (rd : AV -> List α) (any : List α -> Bool) (pre : List α -> Prop) (L : zaa) : zbg := (f, fun xs => match xs with
 | [x, .fn k [] []] => match zaq k g with
   | true => some (L ok x /\ L zfn (L rd x) /\ L pre (L rd x), .bool (L any (L rd x)))
   | false => none
 | _ => none)
def ixA {α : Type} (L : zaa) (none : List α -> Nat -> Prop) (l : List α) : Nat -> St -> Option Ann := fun id st => match id with
 | 0 => some ⟨Nat, fun i => [(8, .int .i64 (L zav i))], fun i => [], [0, 1, 6, 7], [],
     fun i => L2 L none l i, fun i => L2 L (fun (l : List α) (i : Nat) => l.length - i) l i⟩
 | _ => Option.none
theorem znh (a b : Int) : ile a b = decide (a <= b) := by simp [ile]
def zfk (x : Ls) : Bool := decide (8 < x.rs.length)
def zgk (x : Cl) : Bool := decide (8 < x.es.length)
def zpr (x : Ep) : Bool := decide (x.w < 0)
def zpm (x : Cl) : Bool := x.es.any zpr
def zxd (x : Ls) : Prop := True
def zxe (x : Cl) : Prop := True
def zxg (x : Ep) : Prop := True
def zso (x : Cl) : Prop := zfn x.es
theorem ymc : zaz Tryz.prog (prS 117 zji zf2 zfk zxd std) := by
 intro xs p r h hp
 dsimp only [prS] at h |-
 split at h <;> cases h
 try simp only [L2, L3, std] at hp |-
 rename_i x
 refine zk2 zcd hp.1 ?_
 have hp := hp.2
 show za7 _ _ _ (.bool (zfk (rdG lsV x)))
 have hp : zxd (rdG lsV x) := hp
 generalize rdG lsV x = y at hp |-
 refine za2 (T := tt) (S := noS) (lo := fun _ => noA std) (lb := noA) 5 (fn := Tryz.f117) (xs := fun L => [.agg [.str (L Ls.n y), .int .u8 (L Pl.a (L Ls.pl y)), .int .u8 (L Pl.b (L Ls.pl y)), .int .u8 (L Pl.c (L Ls.pl y)), .int .u8 (L Pl.d (L Ls.pl y)), .int .u16 (L Pl.p (L Ls.pl y)), zmo L (L Ls.rs y)]]) rfl rfl (by kernel_rfl) (by kernel_rfl) rfl zab (zbh _) (by kernel_rfl) ?_
 intro L P' Q' hL hP hQ
 (cbv; try simp only [syT, true_and, and_true])
 (subst hL; subst hQ; simp only [L2, L3, std] at *; try simp only [syS, reduceCtorEq, Int.reduceToNat, Int.reduceAdd, Int.reduceSub] at *)
 show ilt 8 ((y.rs.length : Nat) : Int) = _
 simp only [ilt, zfk]
 congr 1
 simp
 omega
theorem ymd : zaz Tryz.prog (prS 119 zhn zfz zgk zxe std) := by
 intro xs p r h hp
 dsimp only [prS] at h |-
 split at h <;> cases h
 try simp only [L2, L3, std] at hp |-
 rename_i x
 refine zk2 zc3 hp.1 ?_
 have hp := hp.2
 show za7 _ _ _ (.bool (zgk (rdG clV x)))
 have hp : zxe (rdG clV x) := hp
 generalize rdG clV x = y at hp |-
 refine za2 (T := tt) (S := noS) (lo := fun _ => noA std) (lb := noA) 5 (fn := Tryz.f119) (xs := fun L => [.agg [.str (L Cl.n y), zho L (L Cl.es y)]]) rfl rfl (by kernel_rfl) (by kernel_rfl) rfl zab (zbh _) (by kernel_rfl) ?_
 intro L P' Q' hL hP hQ
 (cbv; try simp only [syT, true_and, and_true])
 (subst hL; subst hQ; simp only [L2, L3, std] at *; try simp only [syS, reduceCtorEq, Int.reduceToNat, Int.reduceAdd, Int.reduceSub] at *)
 show ilt 8 ((y.es.length : Nat) : Int) = _
 simp only [ilt, zgk]
 congr 1
 simp
 omega
theorem yoo : zaz Tryz.prog (prS 121 zlf zij zpr zxg std) := by
 intro xs p r h hp
 dsimp only [prS] at h |-
 split at h <;> cases h
 try simp only [L2, L3, std] at hp |-
 rename_i x
 refine zk2 zct hp.1 ?_
 have hp := hp.2
 show za7 _ _ _ (.bool (zpr (rdG epV x)))
 have hp : zxg (rdG epV x) := hp
 generalize rdG epV x = y at hp |-
 refine za2 (T := tt) (S := noS) (lo := fun _ => noA std) (lb := noA) 5 (fn := Tryz.f121) (xs := fun L => [.agg [.int .u8 (L Pl.a (L Ep.pl y)), .int .u8 (L Pl.b (L Ep.pl y)), .int .u8 (L Pl.c (L Ep.pl y)), .int .u8 (L Pl.d (L Ep.pl y)), .int .u16 (L Pl.p (L Ep.pl y)), .int .i64 (L Ep.w y)]]) rfl rfl (by kernel_rfl) (by kernel_rfl) rfl zab (zbh _) (by kernel_rfl) ?_
 intro L P' Q' hL hP hQ
 (cbv; try simp only [syT, true_and, and_true])
 (subst hL; subst hQ; simp only [L2, L3, std] at *; try simp only [syS, reduceCtorEq, Int.reduceToNat, Int.reduceAdd, Int.reduceSub] at *)
 simp [ilt, zpr]
def ys7 (l : List Ls) : Int := zmh zfk l
def yid (l : List Ls) : Bool := l.any zfk
def yre (l : List Ls) (i : Nat) : Prop := zli zfk l i
def zn3 (l : List Ls) : Prop := zz2 zxd l
theorem zxx (ih : zaz Tryz.prog (prS 117 zji zf2 zfk zxd std)) : zaz Tryz.prog (zyy 165 117 zoq zii ys7 zn3 std) := by
 intro xs p r h hp
 unfold zyy at h
 simp only at h
 split at h
 rotate_left
 · cases h
 rename_i x k
 cases hk : zaq k 117 with
 | false => rw [hk] at h; cases h
 | true =>
 rw [hk] at h
 obtain rfl : k = 117 := of_decide_eq_true hk
 cases h
 obtain ⟨ho, hz, ha⟩ := hp
 refine zka zcd ho ?_
 have hz : zfn (rdW lsV x) := hz
 have ha : zn3 (rdW lsV x) := ha
 show za7 _ _ _ (.int .i64 (zmh zfk (rdW lsV x)))
 generalize rdW lsV x = l at hz ha |-
 refine za2 (T := tt) (S := fun L => zao [prS 117 zji zf2 zfk zxd L]) (lo := fun L => ixA L yre l) (lb := noA) 5 (fn := Tryz.f165) (xs := fun L => [zd3 L l, .fn 117 [] []]) rfl rfl (by kernel_rfl) (by kernel_rfl) rfl zab
   (za3 ⟨ih, trivial⟩) (by kernel_rfl) ?_
 intro L P' Q' hL hP hQ
 (cbv; try simp only [syT, true_and, and_true])
 refine ⟨⟨0, ?_⟩, fun i hi => ?_⟩
 · (cbv; try simp only [syT, true_and, and_true])
   (subst hL; subst hQ; simp only [L2, L3, std] at *; try simp only [syS, reduceCtorEq, Int.reduceToNat, Int.reduceAdd, Int.reduceSub] at *)
   exact zjk _ _
 · cbv at hi
   have hG : ∀ y : Ls, L zf2 (.agg [.str (L Ls.n y), .int .u8 (L Pl.a (L Ls.pl y)), .int .u8 (L Pl.b (L Ls.pl y)), .int .u8 (L Pl.c (L Ls.pl y)), .int .u8 (L Pl.d (L Ls.pl y)), .int .u16 (L Pl.p (L Ls.pl y)), .lst 4 (L zad (L Ls.rs y)) (fun i => rtC L (L (L zb5 (L Ls.rs y)) i))]) = y := by subst hL; exact fun y => (gK zcd y _ rfl).2
   have hO : ∀ y : Ls, L zji (.agg [.str (L Ls.n y), .int .u8 (L Pl.a (L Ls.pl y)), .int .u8 (L Pl.b (L Ls.pl y)), .int .u8 (L Pl.c (L Ls.pl y)), .int .u8 (L Pl.d (L Ls.pl y)), .int .u16 (L Pl.p (L Ls.pl y)), .lst 4 (L zad (L Ls.rs y)) (fun i => rtC L (L (L zb5 (L Ls.rs y)) i))]) := by subst hL; exact fun y => (gK zcd y _ rfl).1
   (cbv; try simp only [syT, true_and, and_true])
   simp only [hG, hO, true_and]
   have hw : zad l = l.length := rfl
   have hz : l.length <= 1000000 := hz
   refine ⟨fun hlt => ⟨?_, ?_, fun hb => ?_, fun hb => ⟨i + 1, ?_⟩⟩, fun hge => ?_⟩
   · (subst hL; subst hQ; simp only [L2, L3, std] at *; try simp only [syS, reduceCtorEq, Int.reduceToNat, Int.reduceAdd, Int.reduceSub] at *)
     omega
   · (subst hL; subst hQ; simp only [L2, L3, std] at *; try simp only [syS, reduceCtorEq, Int.reduceToNat, Int.reduceAdd, Int.reduceSub] at *)
     exact ha _ (by rw [za4, zak (V := lsV) (by omega)]; exact List.getElem_mem _)
   · (subst hL; subst hQ; simp only [L2, L3, std] at *; try simp only [syS, reduceCtorEq, Int.reduceToNat, Int.reduceAdd, Int.reduceSub] at *)
     exact (zfg (V := lsV) hi (by omega) hb).symm
   · (cbv; try simp only [syT, true_and, and_true])
     try simp only [hG]
     (subst hL; subst hQ; simp only [L2, L3, std] at *; try simp only [syS, reduceCtorEq, Int.reduceToNat, Int.reduceAdd, Int.reduceSub] at *)
     exact ⟨by omega, ze3 (V := lsV) hi (by omega) hb, by omega⟩
   · (subst hL; subst hQ; simp only [L2, L3, std] at *; try simp only [syS, reduceCtorEq, Int.reduceToNat, Int.reduceAdd, Int.reduceSub] at *)
     exact (zfh hi (by omega)).symm
theorem zyr (ih : zaz Tryz.prog (prS 117 zji zf2 zfk zxd std)) : zaz Tryz.prog (zz1 116 117 zoq zii yid zn3 std) := by
 intro xs p r h hp
 unfold zz1 at h
 simp only at h
 split at h
 rotate_left
 · cases h
 rename_i x k
 cases hk : zaq k 117 with
 | false => rw [hk] at h; cases h
 | true =>
 rw [hk] at h
 obtain rfl : k = 117 := of_decide_eq_true hk
 cases h
 obtain ⟨ho, hz, ha⟩ := hp
 refine zka zcd ho ?_
 have hz : zfn (rdW lsV x) := hz
 have ha : zn3 (rdW lsV x) := ha
 show za7 _ _ _ (.bool (yid (rdW lsV x)))
 generalize rdW lsV x = l at hz ha |-
 refine za2 (T := tt) (S := fun L => zao [zyy 165 117 zoq zii ys7 zn3 L]) (lo := fun _ => noA std) (lb := noA) 5 (fn := Tryz.f116) (xs := fun L => [zd3 L l, .fn 117 [] []]) rfl rfl (by kernel_rfl) (by kernel_rfl) rfl zab
   (za3 ⟨zxx ih, trivial⟩) (by kernel_rfl) ?_
 intro L P' Q' hL hP hQ
 (cbv; try simp only [syT, true_and, and_true])
 (subst hL; subst hQ; simp only [L2, L3, std] at *; try simp only [syS, reduceCtorEq, Int.reduceToNat, Int.reduceAdd, Int.reduceSub] at *)
 simp only [ylj]
 refine ⟨⟨ylz _, hz, ha⟩, ?_⟩
 have := zg5 zfk l
 rw [znh, show yid l = l.any zfk from rfl, <- this]; rfl
def ys8 (l : List Cl) : Int := zmh zgk l
def yie (l : List Cl) : Bool := l.any zgk
def yrf (l : List Cl) (i : Nat) : Prop := zli zgk l i
def zn4 (l : List Cl) : Prop := zz2 zxe l
theorem zxy (ih : zaz Tryz.prog (prS 119 zhn zfz zgk zxe std)) : zaz Tryz.prog (zyy 166 119 zjh zgh ys8 zn4 std) := by
 intro xs p r h hp
 unfold zyy at h
 simp only at h
 split at h
 rotate_left
 · cases h
 rename_i x k
 cases hk : zaq k 119 with
 | false => rw [hk] at h; cases h
 | true =>
 rw [hk] at h
 obtain rfl : k = 119 := of_decide_eq_true hk
 cases h
 obtain ⟨ho, hz, ha⟩ := hp
 refine zka zc3 ho ?_
 have hz : zfn (rdW clV x) := hz
 have ha : zn4 (rdW clV x) := ha
 show za7 _ _ _ (.int .i64 (zmh zgk (rdW clV x)))
 generalize rdW clV x = l at hz ha |-
 refine za2 (T := tt) (S := fun L => zao [prS 119 zhn zfz zgk zxe L]) (lo := fun L => ixA L yrf l) (lb := noA) 5 (fn := Tryz.f166) (xs := fun L => [zcn L l, .fn 119 [] []]) rfl rfl (by kernel_rfl) (by kernel_rfl) rfl zab
   (za3 ⟨ih, trivial⟩) (by kernel_rfl) ?_
 intro L P' Q' hL hP hQ
 (cbv; try simp only [syT, true_and, and_true])
 refine ⟨⟨0, ?_⟩, fun i hi => ?_⟩
 · (cbv; try simp only [syT, true_and, and_true])
   (subst hL; subst hQ; simp only [L2, L3, std] at *; try simp only [syS, reduceCtorEq, Int.reduceToNat, Int.reduceAdd, Int.reduceSub] at *)
   exact zjk _ _
 · cbv at hi
   have hG : ∀ y : Cl, L zfz (.agg [.str (L Cl.n y), .lst 6 (L zad (L Cl.es y)) (fun i => epC L (L (L zb6 (L Cl.es y)) i))]) = y := by subst hL; exact fun y => (gK zc3 y _ rfl).2
   have hO : ∀ y : Cl, L zhn (.agg [.str (L Cl.n y), .lst 6 (L zad (L Cl.es y)) (fun i => epC L (L (L zb6 (L Cl.es y)) i))]) := by subst hL; exact fun y => (gK zc3 y _ rfl).1
   (cbv; try simp only [syT, true_and, and_true])
   simp only [hG, hO, true_and]
   have hw : zad l = l.length := rfl
   have hz : l.length <= 1000000 := hz
   refine ⟨fun hlt => ⟨?_, ?_, fun hb => ?_, fun hb => ⟨i + 1, ?_⟩⟩, fun hge => ?_⟩
   · (subst hL; subst hQ; simp only [L2, L3, std] at *; try simp only [syS, reduceCtorEq, Int.reduceToNat, Int.reduceAdd, Int.reduceSub] at *)
     omega
   · (subst hL; subst hQ; simp only [L2, L3, std] at *; try simp only [syS, reduceCtorEq, Int.reduceToNat, Int.reduceAdd, Int.reduceSub] at *)
     exact ha _ (by rw [za5, zak (V := clV) (by omega)]; exact List.getElem_mem _)
   · (subst hL; subst hQ; simp only [L2, L3, std] at *; try simp only [syS, reduceCtorEq, Int.reduceToNat, Int.reduceAdd, Int.reduceSub] at *)
     exact (zfg (V := clV) hi (by omega) hb).symm
   · (cbv; try simp only [syT, true_and, and_true])
     try simp only [hG]
     (subst hL; subst hQ; simp only [L2, L3, std] at *; try simp only [syS, reduceCtorEq, Int.reduceToNat, Int.reduceAdd, Int.reduceSub] at *)
     exact ⟨by omega, ze3 (V := clV) hi (by omega) hb, by omega⟩
   · (subst hL; subst hQ; simp only [L2, L3, std] at *; try simp only [syS, reduceCtorEq, Int.reduceToNat, Int.reduceAdd, Int.reduceSub] at *)
     exact (zfh hi (by omega)).symm
theorem zys (ih : zaz Tryz.prog (prS 119 zhn zfz zgk zxe std)) : zaz Tryz.prog (zz1 118 119 zjh zgh yie zn4 std) := by
 intro xs p r h hp
 unfold zz1 at h
 simp only at h
 split at h
 rotate_left
 · cases h
 rename_i x k
 cases hk : zaq k 119 with
 | false => rw [hk] at h; cases h
 | true =>
 rw [hk] at h
 obtain rfl : k = 119 := of_decide_eq_true hk
 cases h
 obtain ⟨ho, hz, ha⟩ := hp
 refine zka zc3 ho ?_
 have hz : zfn (rdW clV x) := hz
 have ha : zn4 (rdW clV x) := ha
 show za7 _ _ _ (.bool (yie (rdW clV x)))
 generalize rdW clV x = l at hz ha |-
 refine za2 (T := tt) (S := fun L => zao [zyy 166 119 zjh zgh ys8 zn4 L]) (lo := fun _ => noA std) (lb := noA) 5 (fn := Tryz.f118) (xs := fun L => [zcn L l, .fn 119 [] []]) rfl rfl (by kernel_rfl) (by kernel_rfl) rfl zab
   (za3 ⟨zxy ih, trivial⟩) (by kernel_rfl) ?_
 intro L P' Q' hL hP hQ
 (cbv; try simp only [syT, true_and, and_true])
 (subst hL; subst hQ; simp only [L2, L3, std] at *; try simp only [syS, reduceCtorEq, Int.reduceToNat, Int.reduceAdd, Int.reduceSub] at *)
 simp only [yas]
 refine ⟨⟨ybg _, hz, ha⟩, ?_⟩
 have := zg5 zgk l
 rw [znh, show yie l = l.any zgk from rfl, <- this]; rfl
def ys9 (l : List Ep) : Int := zmh zpr l
def yif (l : List Ep) : Bool := l.any zpr
def yrg (l : List Ep) (i : Nat) : Prop := zli zpr l i
def zn5 (l : List Ep) : Prop := zz2 zxg l
theorem zxz (ih : zaz Tryz.prog (prS 121 zlf zij zpr zxg std)) : zaz Tryz.prog (zyy 147 121 zk7 zhm ys9 zn5 std) := by
 intro xs p r h hp
 unfold zyy at h
 simp only at h
 split at h
 rotate_left
 · cases h
 rename_i x k
 cases hk : zaq k 121 with
 | false => rw [hk] at h; cases h
 | true =>
 rw [hk] at h
 obtain rfl : k = 121 := of_decide_eq_true hk
 cases h
 obtain ⟨ho, hz, ha⟩ := hp
 refine zka zct ho ?_
 have hz : zfn (rdW epV x) := hz
 have ha : zn5 (rdW epV x) := ha
 show za7 _ _ _ (.int .i64 (zmh zpr (rdW epV x)))
 generalize rdW epV x = l at hz ha |-
 refine za2 (T := tt) (S := fun L => zao [prS 121 zlf zij zpr zxg L]) (lo := fun L => ixA L yrg l) (lb := noA) 5 (fn := Tryz.f147) (xs := fun L => [zho L l, .fn 121 [] []]) rfl rfl (by kernel_rfl) (by kernel_rfl) rfl zab
   (za3 ⟨ih, trivial⟩) (by kernel_rfl) ?_
 intro L P' Q' hL hP hQ
 (cbv; try simp only [syT, true_and, and_true])
 refine ⟨⟨0, ?_⟩, fun i hi => ?_⟩
 · (cbv; try simp only [syT, true_and, and_true])
   (subst hL; subst hQ; simp only [L2, L3, std] at *; try simp only [syS, reduceCtorEq, Int.reduceToNat, Int.reduceAdd, Int.reduceSub] at *)
   exact zjk _ _
 · cbv at hi
   have hG : ∀ y : Ep, L zij (.agg [.int .u8 (L Pl.a (L Ep.pl y)), .int .u8 (L Pl.b (L Ep.pl y)), .int .u8 (L Pl.c (L Ep.pl y)), .int .u8 (L Pl.d (L Ep.pl y)), .int .u16 (L Pl.p (L Ep.pl y)), .int .i64 (L Ep.w y)]) = y := by subst hL; exact fun y => (gK zct y _ rfl).2
   have hO : ∀ y : Ep, L zlf (.agg [.int .u8 (L Pl.a (L Ep.pl y)), .int .u8 (L Pl.b (L Ep.pl y)), .int .u8 (L Pl.c (L Ep.pl y)), .int .u8 (L Pl.d (L Ep.pl y)), .int .u16 (L Pl.p (L Ep.pl y)), .int .i64 (L Ep.w y)]) := by subst hL; exact fun y => (gK zct y _ rfl).1
   (cbv; try simp only [syT, true_and, and_true])
   simp only [hG, hO, true_and]
   have hw : zad l = l.length := rfl
   have hz : l.length <= 1000000 := hz
   refine ⟨fun hlt => ⟨?_, ?_, fun hb => ?_, fun hb => ⟨i + 1, ?_⟩⟩, fun hge => ?_⟩
   · (subst hL; subst hQ; simp only [L2, L3, std] at *; try simp only [syS, reduceCtorEq, Int.reduceToNat, Int.reduceAdd, Int.reduceSub] at *)
     omega
   · (subst hL; subst hQ; simp only [L2, L3, std] at *; try simp only [syS, reduceCtorEq, Int.reduceToNat, Int.reduceAdd, Int.reduceSub] at *)
     exact ha _ (by rw [zb6, zak (V := epV) (by omega)]; exact List.getElem_mem _)
   · (subst hL; subst hQ; simp only [L2, L3, std] at *; try simp only [syS, reduceCtorEq, Int.reduceToNat, Int.reduceAdd, Int.reduceSub] at *)
     exact (zfg (V := epV) hi (by omega) hb).symm
   · (cbv; try simp only [syT, true_and, and_true])
     try simp only [hG]
     (subst hL; subst hQ; simp only [L2, L3, std] at *; try simp only [syS, reduceCtorEq, Int.reduceToNat, Int.reduceAdd, Int.reduceSub] at *)
     exact ⟨by omega, ze3 (V := epV) hi (by omega) hb, by omega⟩
   · (subst hL; subst hQ; simp only [L2, L3, std] at *; try simp only [syS, reduceCtorEq, Int.reduceToNat, Int.reduceAdd, Int.reduceSub] at *)
     exact (zfh hi (by omega)).symm
theorem zyt (ih : zaz Tryz.prog (prS 121 zlf zij zpr zxg std)) : zaz Tryz.prog (zz1 99 121 zk7 zhm yif zn5 std) := by
 intro xs p r h hp
 unfold zz1 at h
 simp only at h
 split at h
 rotate_left
 · cases h
 rename_i x k
 cases hk : zaq k 121 with
 | false => rw [hk] at h; cases h
 | true =>
 rw [hk] at h
 obtain rfl : k = 121 := of_decide_eq_true hk
 cases h
 obtain ⟨ho, hz, ha⟩ := hp
 refine zka zct ho ?_
 have hz : zfn (rdW epV x) := hz
 have ha : zn5 (rdW epV x) := ha
 show za7 _ _ _ (.bool (yif (rdW epV x)))
 generalize rdW epV x = l at hz ha |-
 refine za2 (T := tt) (S := fun L => zao [zyy 147 121 zk7 zhm ys9 zn5 L]) (lo := fun _ => noA std) (lb := noA) 5 (fn := Tryz.f99) (xs := fun L => [zho L l, .fn 121 [] []]) rfl rfl (by kernel_rfl) (by kernel_rfl) rfl zab
   (za3 ⟨zxz ih, trivial⟩) (by kernel_rfl) ?_
 intro L P' Q' hL hP hQ
 (cbv; try simp only [syT, true_and, and_true])
 (subst hL; subst hQ; simp only [L2, L3, std] at *; try simp only [syS, reduceCtorEq, Int.reduceToNat, Int.reduceAdd, Int.reduceSub] at *)
 simp only [yar]
 refine ⟨⟨ybf _, hz, ha⟩, ?_⟩
 have := zg5 zpr l
 rw [znh, show yif l = l.any zpr from rfl, <- this]; rfl
theorem yop : zaz Tryz.prog (prS 120 zhn zfz zpm zso std) := by
 intro xs p r h hp
 dsimp only [prS] at h |-
 split at h <;> cases h
 try simp only [L2, L3, std] at hp |-
 rename_i x
 refine zk2 zc3 hp.1 ?_
 have hp := hp.2
 show za7 _ _ _ (.bool (zpm (rdG clV x)))
 have hp : zso (rdG clV x) := hp
 generalize rdG clV x = y at hp |-
 refine za2 (T := tt) (S := fun L => zao [zz1 99 121 zk7 zhm yif zn5 L]) (lo := fun _ => noA std) (lb := noA) 5 (fn := Tryz.f120) (xs := fun L => [.agg [.str (L Cl.n y), zho L (L Cl.es y)]]) rfl rfl (by kernel_rfl) (by kernel_rfl) rfl zab (za3 ⟨zyt yoo, trivial⟩) (by kernel_rfl) ?_
 intro L P' Q' hL hP hQ
 (cbv; try simp only [syT, true_and, and_true])
 (subst hL; subst hQ; simp only [L2, L3, std] at *; try simp only [syS, reduceCtorEq, Int.reduceToNat, Int.reduceAdd, Int.reduceSub] at *)
 simp only [yar]
 exact ⟨⟨ybf _, hp, fun _ _ => trivial⟩, rfl⟩
def ysa (l : List Cl) : Int := zmh zpm l
def yig (l : List Cl) : Bool := l.any zpm
def yrh (l : List Cl) (i : Nat) : Prop := zli zpm l i
def zn6 (l : List Cl) : Prop := zz2 zso l
theorem zy0 (ih : zaz Tryz.prog (prS 120 zhn zfz zpm zso std)) : zaz Tryz.prog (zyy 166 120 zjh zgh ysa zn6 std) := by
 intro xs p r h hp
 unfold zyy at h
 simp only at h
 split at h
 rotate_left
 · cases h
 rename_i x k
 cases hk : zaq k 120 with
 | false => rw [hk] at h; cases h
 | true =>
 rw [hk] at h
 obtain rfl : k = 120 := of_decide_eq_true hk
 cases h
 obtain ⟨ho, hz, ha⟩ := hp
 refine zka zc3 ho ?_
 have hz : zfn (rdW clV x) := hz
 have ha : zn6 (rdW clV x) := ha
 show za7 _ _ _ (.int .i64 (zmh zpm (rdW clV x)))
 generalize rdW clV x = l at hz ha |-
 refine za2 (T := tt) (S := fun L => zao [prS 120 zhn zfz zpm zso L]) (lo := fun L => ixA L yrh l) (lb := noA) 5 (fn := Tryz.f166) (xs := fun L => [zcn L l, .fn 120 [] []]) rfl rfl (by kernel_rfl) (by kernel_rfl) rfl zab
   (za3 ⟨ih, trivial⟩) (by kernel_rfl) ?_
 intro L P' Q' hL hP hQ
 (cbv; try simp only [syT, true_and, and_true])
 refine ⟨⟨0, ?_⟩, fun i hi => ?_⟩
 · (cbv; try simp only [syT, true_and, and_true])
   (subst hL; subst hQ; simp only [L2, L3, std] at *; try simp only [syS, reduceCtorEq, Int.reduceToNat, Int.reduceAdd, Int.reduceSub] at *)
   exact zjk _ _
 · cbv at hi
   have hG : ∀ y : Cl, L zfz (.agg [.str (L Cl.n y), .lst 6 (L zad (L Cl.es y)) (fun i => epC L (L (L zb6 (L Cl.es y)) i))]) = y := by subst hL; exact fun y => (gK zc3 y _ rfl).2
   have hO : ∀ y : Cl, L zhn (.agg [.str (L Cl.n y), .lst 6 (L zad (L Cl.es y)) (fun i => epC L (L (L zb6 (L Cl.es y)) i))]) := by subst hL; exact fun y => (gK zc3 y _ rfl).1
   (cbv; try simp only [syT, true_and, and_true])
   simp only [hG, hO, true_and]
   have hw : zad l = l.length := rfl
   have hz : l.length <= 1000000 := hz
   refine ⟨fun hlt => ⟨?_, ?_, fun hb => ?_, fun hb => ⟨i + 1, ?_⟩⟩, fun hge => ?_⟩
   · (subst hL; subst hQ; simp only [L2, L3, std] at *; try simp only [syS, reduceCtorEq, Int.reduceToNat, Int.reduceAdd, Int.reduceSub] at *)
     omega
   · (subst hL; subst hQ; simp only [L2, L3, std] at *; try simp only [syS, reduceCtorEq, Int.reduceToNat, Int.reduceAdd, Int.reduceSub] at *)
     exact ha _ (by rw [za5, zak (V := clV) (by omega)]; exact List.getElem_mem _)
   · (subst hL; subst hQ; simp only [L2, L3, std] at *; try simp only [syS, reduceCtorEq, Int.reduceToNat, Int.reduceAdd, Int.reduceSub] at *)
     exact (zfg (V := clV) hi (by omega) hb).symm
   · (cbv; try simp only [syT, true_and, and_true])
     try simp only [hG]
     (subst hL; subst hQ; simp only [L2, L3, std] at *; try simp only [syS, reduceCtorEq, Int.reduceToNat, Int.reduceAdd, Int.reduceSub] at *)
     exact ⟨by omega, ze3 (V := clV) hi (by omega) hb, by omega⟩
   · (subst hL; subst hQ; simp only [L2, L3, std] at *; try simp only [syS, reduceCtorEq, Int.reduceToNat, Int.reduceAdd, Int.reduceSub] at *)
     exact (zfh hi (by omega)).symm
theorem zyu (ih : zaz Tryz.prog (prS 120 zhn zfz zpm zso std)) : zaz Tryz.prog (zz1 118 120 zjh zgh yig zn6 std) := by
 intro xs p r h hp
 unfold zz1 at h
 simp only at h
 split at h
 rotate_left
 · cases h
 rename_i x k
 cases hk : zaq k 120 with
 | false => rw [hk] at h; cases h
 | true =>
 rw [hk] at h
 obtain rfl : k = 120 := of_decide_eq_true hk
 cases h
 obtain ⟨ho, hz, ha⟩ := hp
 refine zka zc3 ho ?_
 have hz : zfn (rdW clV x) := hz
 have ha : zn6 (rdW clV x) := ha
 show za7 _ _ _ (.bool (yig (rdW clV x)))
 generalize rdW clV x = l at hz ha |-
 refine za2 (T := tt) (S := fun L => zao [zyy 166 120 zjh zgh ysa zn6 L]) (lo := fun _ => noA std) (lb := noA) 5 (fn := Tryz.f118) (xs := fun L => [zcn L l, .fn 120 [] []]) rfl rfl (by kernel_rfl) (by kernel_rfl) rfl zab
   (za3 ⟨zy0 ih, trivial⟩) (by kernel_rfl) ?_
 intro L P' Q' hL hP hQ
 (cbv; try simp only [syT, true_and, and_true])
 (subst hL; subst hQ; simp only [L2, L3, std] at *; try simp only [syS, reduceCtorEq, Int.reduceToNat, Int.reduceAdd, Int.reduceSub] at *)
 simp only [yas]
 refine ⟨⟨ybg _, hz, ha⟩, ?_⟩
 have := zg5 zpm l
 rw [znh, show yig l = l.any zpm from rfl, <- this]; rfl
structure zu8 (v : CV) (a b : Nat) : Prop where
 wf : wfV v
 sz : sizeC v <= a
 tx : (zbr v).length <= b
theorem zu8.up {v : CV} {a b a' b' : Nat} (h : zu8 v a b) (ha : a <= a') (hb : b <= b') : zu8 v a' b' := ⟨h.wf, by have := h.sz; omega, by have := h.tx; omega⟩
theorem ztj {n : Int} (h : zbu n) : zu8 (zgd n) 1 11 := by
 refine ⟨?_, ?_, ?_⟩
 · rw [zgd, wfV, zu9]; exact ⟨h, by decide, trivial⟩
 · rw [zgd, zc1, zcp]; omega
 · rw [zgd, zaj, if_pos rfl, List.length_append]
   have := zdc h
   have e : (zgb 1).length = 1 := rfl
   omega
theorem zi4 {s : List UInt8} {m : Nat} (h : s.length <= m) (hm : m <= 1000000) : zu8 (zh9 s) 1 (11 + m) := by
 refine ⟨?_, ?_, ?_⟩
 · rw [zh9, wfV, zu9]; exact ⟨⟨by decide, by decide⟩, by omega, trivial⟩
 · rw [zh9, zc1, zcp]; omega
 · rw [zh9, zaj, if_neg (by decide), if_pos rfl, List.length_append, List.length_append]
   have := zdc (n := (s.length : Int)) ⟨by omega, by omega⟩
   have e : (zgb 2).length = 1 := rfl
   omega
theorem yjj {a b : Nat} : ∀ {l : List CV}, (∀ v ∈ l, zu8 v a b) -> zu9 l /\ sizeCs l <= l.length * a /\ (zb2 l).length <= l.length * b
 | [], _ => by rw [zu9, zcp, zb2]; exact ⟨trivial, by simp, by simp⟩
 | v :: l, h => by
   obtain ⟨i1, i2, i3⟩ := yjj (l := l) fun w hw => h w (by simp [hw])
   have hv := h v (by simp)
   have h2 := hv.sz
   have h3 := hv.tx
   rw [zu9, zbt, zb2, List.length_append, List.length_cons, Nat.succ_mul, Nat.succ_mul]
   exact ⟨⟨hv.wf, i1⟩, by omega, by omega⟩
theorem zjr {l : List CV} {a b : Nat} (m : Nat) (h : ∀ v ∈ l, zu8 v a b) (hl : l.length <= m) (hm : m <= 1000) : zu8 (zdl l) (m * a + 1) (11 + m * b) := by
 obtain ⟨i1, i2, i3⟩ := yjj h
 have e1 := Nat.mul_le_mul_right a hl
 have e2 := Nat.mul_le_mul_right b hl
 refine ⟨?_, ?_, ?_⟩
 · rw [zdl, wfV]; exact ⟨⟨by decide, by decide⟩, by decide, i1⟩
 · rw [zdl, zc1]; omega
 · rw [zdl, zaj, if_neg (by decide), if_neg (by decide), List.length_append, List.length_append]
   have := zdc (n := (l.length : Int)) ⟨by omega, by omega⟩
   have e : (zgb 3).length = 1 := rfl
   omega
def zdu (x : Rt) : Bool := decide (x.h.length <= 300) && decide (x.p.length <= 300) && decide (x.c.length <= 300)
def zdb (x : Ls) : Bool := decide (x.n.length <= 300) && decide (x.rs.length <= 12) && x.rs.all zdu
def zdv (x : Cl) : Bool := decide (x.n.length <= 300) && decide (x.es.length <= 12)
def zbm (x : Cf) : Bool := decide (x.ls.length <= 12) && decide (x.cs.length <= 12) && x.ls.all zdb && x.cs.all zdv
def yuj (x : Rt) : Prop := zbu x.i
def yuk (x : Ep) : Prop := zqe x.pl /\ -9223372036854775808 <= x.w /\ x.w <= 9223372036854775807
def yk9 (x : Ls) : Prop := zqe x.pl /\ ∀ r ∈ x.rs, yuj r
def yul (x : Cl) : Prop := ∀ e ∈ x.es, yuk e
def ypn (x : Cf) : Prop := zbu x.v /\ (∀ l ∈ x.ls, yk9 l) /\ ∀ c ∈ x.cs, yul c
def zhs (x : Cf) : CV := zdl [zgd x.v, zvc x.ls, zvw x.cs]
theorem yb5 (x : Pl) : (plB x).length = 6 := rfl
theorem ysg {x : Rt} (hl : zdu x = true) (hw : yuj x) : zu8 (zgo x) 5 1255 := by
 simp only [zdu, Bool.and_eq_true, decide_eq_true_eq] at hl
 refine zjr (a := 1) (b := 311) 4 (fun v hv => ?_) (Nat.le_of_ble_eq_true rfl) (by decide)
 simp only [List.mem_cons, List.not_mem_nil, or_false] at hv
 rcases hv with rfl | rfl | rfl | rfl
 · exact zi4 hl.1.1 (by omega)
 · exact zi4 hl.1.2 (by omega)
 · exact zi4 hl.2 (by omega)
 · exact (ztj hw).up (by omega) (by omega)
theorem zkl {α : Type} {val : α -> CV} {l : List α} {a b : Nat} (m : Nat) (h : ∀ x ∈ l, zu8 (val x) a b) (hl : l.length <= m) (hm : m <= 1000) : zu8 (zpg val l) (m * a + 1) (11 + m * b) :=
 zjr m (fun v hv => by obtain ⟨x, hx, rfl⟩ := List.mem_map.1 hv; exact h x hx) (by simpa using hl) hm
theorem ysh {x : Ep} (hw : yuk x) : zu8 (zh2 x) 3 45 := by
 refine zjr (a := 1) (b := 17) 2 (fun v hv => ?_) (Nat.le_of_ble_eq_true rfl) (by decide)
 simp only [List.mem_cons, List.not_mem_nil, or_false] at hv
 rcases hv with rfl | rfl
 · exact zi4 (m := 6) (Nat.le_of_eq (yb5 _)) (by omega)
 · exact (ztj ⟨by omega, by omega⟩).up (by omega) (by omega)
theorem ynf {x : Ls} (hl : zdb x = true) (hw : yk9 x) : zu8 (zhp x) 184 45224 := by
 simp only [zdb, Bool.and_eq_true, decide_eq_true_eq, List.all_eq_true] at hl
 refine zjr (a := 61) (b := 15071) 3 (fun v hv => ?_) (Nat.le_of_ble_eq_true rfl) (by decide)
 simp only [List.mem_cons, List.not_mem_nil, or_false] at hv
 rcases hv with rfl | rfl | rfl
 · exact (zi4 hl.1.1 (by omega)).up (by omega) (by omega)
 · exact (zi4 (m := 6) (Nat.le_of_eq (yb5 _)) (by omega)).up (by omega) (by omega)
 · exact (zkl (a := 5) (b := 1255) 12 (fun r hr => ysg (hl.2 r hr) (hw.2 r hr)) hl.1.2 (by omega)).up (by omega) (by omega)
theorem ysi {x : Cl} (hl : zdv x = true) (hw : yul x) : zu8 (zhr x) 75 1113 := by
 simp only [zdv, Bool.and_eq_true, decide_eq_true_eq] at hl
 refine zjr (a := 37) (b := 551) 2 (fun v hv => ?_) (Nat.le_of_ble_eq_true rfl) (by decide)
 simp only [List.mem_cons, List.not_mem_nil, or_false] at hv
 rcases hv with rfl | rfl
 · exact (zi4 hl.1 (by omega)).up (by omega) (by omega)
 · exact (zkl (a := 3) (b := 45) 12 (fun e he => ysh (hw e he)) hl.2 (by omega)).up (by omega) (by omega)
theorem yjk {x : Cf} (hl : zbm x = true) (hw : ypn x) : zu8 (zhs x) 7000 2000000 := by
 simp only [zbm, Bool.and_eq_true, decide_eq_true_eq, List.all_eq_true] at hl
 refine (zjr (a := 2209) (b := 542699) 3 (fun v hv => ?_) (Nat.le_of_ble_eq_true rfl) (by decide)).up (by decide) (by decide)
 simp only [List.mem_cons, List.not_mem_nil, or_false] at hv
 rcases hv with rfl | rfl | rfl
 · exact (ztj hw.1).up (by omega) (by omega)
 · exact (zkl (a := 184) (b := 45224) 12 (fun r hr => ynf (hl.1.2 r hr) (hw.2.1 r hr)) hl.1.1.1 (by omega)).up (by omega) (by omega)
 · exact (zkl (a := 75) (b := 1113) 12 (fun r hr => ysi (hl.2 r hr) (hw.2.2 r hr)) hl.1.1.2 (by omega)).up (by omega) (by omega)
def zgj (x : Cf) : Bool := decide (8 < x.ls.length \/ 8 < x.cs.length) || x.ls.any zfk || x.cs.any zgk
def yeu (x : Cf) : Bool := x.cs.any zpm
def cfE (x : Cf) : Int := if zgj x = true then 6 else if yeu x = true then 7 else zlc (zhs x)
def cfT (x : Cf) : List UInt8 := if cfE x = 0 then zoj (zhs x) else []
theorem lit3 (a b c : CV) : rdL (.lst 4 3 fun i j => zbq .dead [.int .i64 a.kd, .int .u64 a.nn, .str a.tx, .lst 4 (zmg a) (zkq a), .int .i64 b.kd, .int .u64 b.nn, .str b.tx, .lst 4 (zmg b) (zkq b), .int .i64 c.kd, .int .u64 c.nn, .str c.tx, .lst 4 (zmg c) (zkq c)] (i * 4 + j)) = [a, b, c] := (zm6 [a, b, c] (n := 3) rfl rfl).1
theorem ymg (a b c : CV) : okL (.lst 4 3 fun i j => zbq .dead [.int .i64 a.kd, .int .u64 a.nn, .str a.tx, .lst 4 (zmg a) (zkq a), .int .i64 b.kd, .int .u64 b.nn, .str b.tx, .lst 4 (zmg b) (zkq b), .int .i64 c.kd, .int .u64 c.nn, .str c.tx, .lst 4 (zmg c) (zkq c)] (i * 4 + j)) := (zm6 [a, b, c] (n := 3) rfl rfl).2
def yrr (n : Nat) (x : Cf) : Prop := x.ls.length <= n /\ x.cs.length <= n
def ylu (x : Cf) : Prop := yrr 1000000 x
def ylv (x : Cf) : Prop := zfn x.cs /\ ∀ c ∈ x.cs, zso c
theorem zxq : zaz Tryz.prog (prS 73 zd2 zah zgj ylu std) := by
 intro xs p r h hp
 dsimp only [prS] at h |-
 split at h <;> cases h
 try simp only [L2, L3, std] at hp |-
 rename_i x
 refine zk2 zbi hp.1 ?_
 have hp := hp.2
 show za7 _ _ _ (.bool (zgj (rdG cfV x)))
 have hp : ylu (rdG cfV x) := hp
 generalize rdG cfV x = y at hp |-
 refine za2 (T := tt) (S := fun L => zao [zz1 116 117 zoq zii yid zn3 L, zz1 118 119 zjh zgh yie zn4 L]) (lo := fun _ => noA std) (lb := noA) 5 (fn := Tryz.f73) (xs := fun L => [.agg [.int .u64 (L Cf.v y), zd3 L (L Cf.ls y), zcn L (L Cf.cs y)]]) rfl rfl (by kernel_rfl) (by kernel_rfl) rfl zab (za3 ⟨zyr ymc, zys ymd, trivial⟩) (by kernel_rfl) ?_
 intro L P' Q' hL hP hQ
 (cbv; try simp only [syT, true_and, and_true])
 (subst hL; subst hQ; simp only [L2, L3, std] at *; try simp only [syS, reduceCtorEq, Int.reduceToNat, Int.reduceAdd, Int.reduceSub] at *)
 simp only [ylj, yas]
 have e1 : zad y.ls = y.ls.length := rfl
 have e2 : zad y.cs = y.cs.length := rfl
 refine ⟨fun h => ?_, fun h => ⟨⟨ylz _, hp.1, fun _ _ => trivial⟩, fun h2 => ?_, fun h2 => ⟨⟨ybg _, hp.2, fun _ _ => trivial⟩, ?_⟩⟩⟩
 · unfold zgj; rw [decide_eq_true (by omega)]; rfl
 · unfold zgj; rw [show y.ls.any zfk = true from h2]; simp
 · unfold zgj; rw [show y.ls.any zfk = false from h2, decide_eq_false (by omega)]; simp; rfl
theorem ye3 : zaz Tryz.prog (prS 74 zd2 zah yeu ylv std) := by
 intro xs p r h hp
 dsimp only [prS] at h |-
 split at h <;> cases h
 try simp only [L2, L3, std] at hp |-
 rename_i x
 refine zk2 zbi hp.1 ?_
 have hp := hp.2
 show za7 _ _ _ (.bool (yeu (rdG cfV x)))
 have hp : ylv (rdG cfV x) := hp
 generalize rdG cfV x = y at hp |-
 refine za2 (T := tt) (S := fun L => zao [zz1 118 120 zjh zgh yig zn6 L]) (lo := fun _ => noA std) (lb := noA) 5 (fn := Tryz.f74) (xs := fun L => [.agg [.int .u64 (L Cf.v y), zd3 L (L Cf.ls y), zcn L (L Cf.cs y)]]) rfl rfl (by kernel_rfl) (by kernel_rfl) rfl zab (za3 ⟨zyu yop, trivial⟩) (by kernel_rfl) ?_
 intro L P' Q' hL hP hQ
 (cbv; try simp only [syT, true_and, and_true])
 (subst hL; subst hQ; simp only [L2, L3, std] at *; try simp only [syS, reduceCtorEq, Int.reduceToNat, Int.reduceAdd, Int.reduceSub] at *)
 simp only [yas]
 exact ⟨⟨ybg _, hp.1, hp.2⟩, rfl⟩
def zf0 (x : Cf) : Prop := zbm x = true /\ ypn x
def yib (L : zaa) : zbg := (30, fun xs => match xs with
 | [x] => some (L zd2 x /\ L zf0 (L zah x), .tup [.str (L cfT (L zah x)), .int .i64 (L cfE (L zah x))])
 | _ => none)
theorem zw2 : zaz Tryz.prog (yib std) := by
 intro xs p r h hp
 dsimp only [yib] at h |-
 split at h <;> cases h
 try simp only [L2, L3, std] at hp |-
 rename_i x
 refine zk2 zbi hp.1 ?_
 have hp := hp.2
 show za7 _ _ _ (.tup [.str (cfT (rdG cfV x)), .int .i64 (cfE (rdG cfV x))])
 have hp : zf0 (rdG cfV x) := hp
 generalize rdG cfV x = y at hp |-
 refine za2 (T := tt) (S := fun L => zao [prS 73 zd2 zah zgj ylu L, prS 74 zd2 zah yeu ylv L, zxk L, zge L, zvv 7000 L, zk9 78 79 zoq zii yjg zvc L, zk9 80 81 zjh zgh yjw zvw L]) (lo := fun _ => noA std) (lb := noA) 5 (fn := Tryz.f30) (xs := fun L => [.agg [.int .u64 (L Cf.v y), zd3 L (L Cf.ls y), zcn L (L Cf.cs y)]]) rfl rfl (by kernel_rfl) (by kernel_rfl) rfl zab (za3 ⟨zxq, ye3, zke, zce, znm 7000, ztp zoz, ztr zre, trivial⟩) (by kernel_rfl) ?_
 intro L P' Q' hL hP hQ
 have hG : L zah (.agg [.int .u64 (L Cf.v y), .lst 7 (L zad (L Cf.ls y)) (fun i => lsC L (L (L za4 (L Cf.ls y)) i)), .lst 2 (L zad (L Cf.cs y)) (fun i => clC L (L (L za5 (L Cf.cs y)) i))]) = y := by subst hL; exact (gK zbi y _ rfl).2
 have hO : L zd2 (.agg [.int .u64 (L Cf.v y), .lst 7 (L zad (L Cf.ls y)) (fun i => lsC L (L (L za4 (L Cf.ls y)) i)), .lst 2 (L zad (L Cf.cs y)) (fun i => clC L (L (L za5 (L Cf.cs y)) i))]) := by subst hL; exact (gK zbi y _ rfl).1
 (cbv; try simp only [syT, true_and, and_true])
 simp only [hG, hO, true_and]
 (subst hL; subst hQ; simp only [L2, L3, std] at *; try simp only [syS, reduceCtorEq, Int.reduceToNat, Int.reduceAdd, Int.reduceSub] at *)
 simp only [ylj, yas]
 simp only [lit3, zbd, zai]
 obtain ⟨hl, hw⟩ := hp
 have hf := yjk hl hw
 have hl' := hl
 simp only [zbm, Bool.and_eq_true, decide_eq_true_eq, List.all_eq_true, zdb, zdv] at hl'
 obtain ⟨⟨⟨l1, l2⟩, l3⟩, l4⟩ := hl'
 have sz1 : ∀ {α : Type} {l : List α} (n : Nat), n <= 12 -> l.length <= n -> zfn l := fun n hn hl => by show _ <= 1000000; omega
 refine ⟨⟨by omega, by omega⟩, fun h => ?_, fun h => ⟨⟨sz1 12 (by omega) l2, fun c hc => sz1 12 (by omega) (l4 c hc).2⟩, fun h2 => ?_, fun h2 => ⟨⟨ylz _, sz1 12 (by omega) l1, fun x hx => ⟨(hw.2.1 x hx).1, sz1 12 (by omega) (l3 x hx).1.2⟩⟩, ⟨ybg _, sz1 12 (by omega) l2, fun c hc => ⟨sz1 12 (by omega) (l4 c hc).2, fun e he => (hw.2.2 c hc e he).1⟩⟩, ⟨ymg _ _ _, by show (3 : Nat) <= 1000000; omega⟩, ⟨(zf1 _).2, ⟨hf.sz, by omega⟩, hf.wf, ?_⟩, ?_⟩⟩⟩
 · have e : cfE y = 6 := by unfold cfE; rw [if_pos h]
   exact ⟨by rw [cfT, if_neg (by rw [e]; decide)], e.symm⟩
 · have e : cfE y = 7 := by unfold cfE; rw [if_neg (by rw [h]; decide), if_pos h2]
   exact ⟨by rw [cfT, if_neg (by rw [e]; decide)], e.symm⟩
 · have := hf.tx
   show (zbr (zhs y)).length <= 90000000
   omega
 · have e : cfE y = zlc (zhs y) := by unfold cfE; rw [if_neg (by rw [h]; decide), if_neg (by rw [h2]; decide)]
   refine ⟨?_, e.symm⟩
   show zoj (zhs y) = cfT y
   unfold cfT
   rw [e]
   split
   · rfl
   · rename_i h3
     unfold zoj; rw [if_neg h3]
def zmc {α : Type} (V : Vw α) (p : α -> Bool) (l : List α) (i : Nat) : Prop := i <= l.length /\ ∀ j, j < i -> p (zlg V l j) = true
theorem zi8 {α : Type} (V : Vw α) (p : α -> Bool) (l : List α) : zmc V p l 0 := ⟨Nat.zero_le _, fun j hj => by omega⟩
theorem zdk {α : Type} {V : Vw α} {p : α -> Bool} {l : List α} {i : Nat} (h : zmc V p l i) (hi : i < l.length) (hp : p (zlg V l i) = true) : zmc V p l (i + 1) :=
 ⟨hi, fun j hj => by by_cases e : j = i; · rw [e]; exact hp
                     · exact h.2 j (by omega)⟩
theorem zdn {α : Type} {V : Vw α} {p : α -> Bool} {l : List α} {i : Nat} (hi : i < l.length) (hp : p (zlg V l i) = false) : l.all p = false := by
 rw [List.all_eq_false]
 exact ⟨l[i], List.getElem_mem _, by rw [zak hi] at hp; rw [hp]; decide⟩
theorem zei {α : Type} {V : Vw α} {p : α -> Bool} {l : List α} {i : Nat} (h : zmc V p l i) (hi : l.length <= i) : l.all p = true := by
 rw [List.all_eq_true]
 intro x hx
 obtain ⟨j, hj, rfl⟩ := List.getElem_of_mem hx
 have := h.2 j (by omega)
 rwa [zak hj] at this
def toLs (l : List Ls) (i : Nat) : Prop := zmc lsV zdb l i
def toRt (l : List Rt) (i : Nat) : Prop := zmc rtV zdu l i
def toCl (l : List Cl) (i : Nat) : Prop := zmc clV zdv l i
def ypx {α : Type} (l : List α) (i : Nat) : Nat := l.length - i
def yna (l : List Ls) (i : Nat) : Nat := ypx l i
def ysc (l : List Rt) (i : Nat) : Nat := ypx l i
def yeq (l : List Cl) (i : Nat) : Nat := ypx l i
def yrq (L : zaa) (y : Cf) : Nat -> St -> Option Ann := fun id st => match id with
 | 0 => some ⟨Nat, fun i => [(20, .int .i64 (L zav i))], fun i => [], [1, 18, 19], [1], fun i => L2 L toLs (L Cf.ls y) i, fun i => L2 L yna (L Cf.ls y) i⟩
 | 2 => zal st 20 fun k => some ⟨Nat, fun j => [(37, .int .i64 (L zav j))], fun j => [], [1, 18, 19, 20, 35, 36], [1], fun j => L2 L toRt (L Ls.rs (L2 L za4 (L Cf.ls y) (L Int.toNat k))) j, fun j => L2 L ysc (L Ls.rs (L2 L za4 (L Cf.ls y) (L Int.toNat k))) j⟩
 | 4 => some ⟨Nat, fun i => [(57, .int .i64 (L zav i))], fun i => [], [55, 56], [], fun i => L2 L toCl (L Cf.cs y) i, fun i => L2 L yeq (L Cf.cs y) i⟩
 | _ => none
theorem zlr {x : Cf} (h : x.ls.all zdb = false) : zbm x = false := by unfold zbm; rw [h]; simp
theorem zqp {x : Cf} (h : x.cs.all zdv = false) : zbm x = false := by unfold zbm; rw [h]; simp
theorem ygt {x : Ls} (h : 300 < (x.n.length : Int)) : zdb x = false := by unfold zdb; rw [decide_eq_false (p := x.n.length <= 300) (by omega)]; simp
theorem ygs {x : Ls} (h : 12 < (x.rs.length : Int)) : zdb x = false := by unfold zdb; rw [decide_eq_false (p := x.rs.length <= 12) (by omega)]; simp
theorem ygu {x : Ls} (h : x.rs.all zdu = false) : zdb x = false := by unfold zdb; rw [h]; simp
theorem ygr {x : Ls} (h1 : (x.n.length : Int) <= 300) (h2 : (x.rs.length : Int) <= 12) (h : x.rs.all zdu = true) : zdb x = true := by unfold zdb; rw [h, decide_eq_true (p := x.n.length <= 300) (by omega), decide_eq_true (p := x.rs.length <= 12) (by omega)]; rfl
theorem ygx {x : Cl} (h : 300 < (x.n.length : Int)) : zdv x = false := by unfold zdv; rw [decide_eq_false (p := x.n.length <= 300) (by omega)]; simp
theorem ygy {x : Cl} (h : 12 < (x.es.length : Int)) : zdv x = false := by unfold zdv; rw [decide_eq_false (p := x.es.length <= 12) (by omega)]; simp
theorem ygw {x : Cl} (h1 : (x.n.length : Int) <= 300) (h2 : (x.es.length : Int) <= 12) : zdv x = true := by unfold zdv; rw [decide_eq_true (p := x.n.length <= 300) (by omega), decide_eq_true (p := x.es.length <= 12) (by omega)]; rfl
theorem ygq {x : Rt} (h : 300 < (x.h.length : Int) \/ 300 < (x.p.length : Int) \/ 300 < (x.c.length : Int)) : zdu x = false := by
 unfold zdu
 rcases h with h | h | h
 · rw [decide_eq_false (p := x.h.length <= 300) (by omega)]; simp
 · rw [decide_eq_false (p := x.p.length <= 300) (by omega)]; simp
 · rw [decide_eq_false (p := x.c.length <= 300) (by omega)]; simp
theorem ygp {x : Rt} (h1 : (x.h.length : Int) <= 300) (h2 : (x.p.length : Int) <= 300) (h3 : (x.c.length : Int) <= 300) : zdu x = true := by
 unfold zdu; rw [decide_eq_true (p := x.h.length <= 300) (by omega), decide_eq_true (p := x.p.length <= 300) (by omega), decide_eq_true (p := x.c.length <= 300) (by omega)]; rfl
theorem ygv {x : Cf} (h1 : (x.ls.length : Int) <= 12) (h2 : (x.cs.length : Int) <= 12) (h3 : x.ls.all zdb = true) (h4 : x.cs.all zdv = true) : zbm x = true := by
 unfold zbm; rw [h3, h4, decide_eq_true (p := x.ls.length <= 12) (by omega), decide_eq_true (p := x.cs.length <= 12) (by omega)]; rfl
def zxf (x : Cf) : Prop := True
theorem zxs : zaz Tryz.prog (prS 9 zd2 zah zbm zxf std) := by
 intro xs p r h hp
 dsimp only [prS] at h |-
 split at h <;> cases h
 try simp only [L2, L3, std] at hp |-
 rename_i x
 refine zk2 zbi hp.1 ?_
 have hp := hp.2
 show za7 _ _ _ (.bool (zbm (rdG cfV x)))
 have hp : zxf (rdG cfV x) := hp
 generalize rdG cfV x = y at hp |-
 refine za2 (T := tt) (S := noS) (lo := fun L => yrq L y) (lb := noA) 5 (fn := Tryz.f9) (xs := fun L => [.agg [.int .u64 (L Cf.v y), zd3 L (L Cf.ls y), zcn L (L Cf.cs y)]]) rfl rfl (by kernel_rfl) (by kernel_rfl) rfl zab (zbh _) (by kernel_rfl) ?_
 intro L P' Q' hL hP hQ
 (cbv; try simp only [syT, true_and, and_true])
 refine ⟨fun h => ?_, fun h => ⟨⟨0, ?_⟩, fun i hi => ?_⟩⟩
 · (subst hL; subst hQ; simp only [L2, L3, std] at *; try simp only [syS, reduceCtorEq, Int.reduceToNat, Int.reduceAdd, Int.reduceSub] at *)
   simp only [zbm]
   have e1 : zad y.ls = y.ls.length := rfl
   have e2 : zad y.cs = y.cs.length := rfl
   by_cases h1 : y.ls.length <= 12
   · rw [decide_eq_false (p := y.cs.length <= 12) (by omega)]; simp
   · rw [decide_eq_false h1]; simp
 · (cbv; try simp only [syT, true_and, and_true])
   (subst hL; subst hQ; simp only [L2, L3, std] at *; try simp only [syS, reduceCtorEq, Int.reduceToNat, Int.reduceAdd, Int.reduceSub] at *)
   exact zi8 _ _ _
 · cbv at hi
   (cbv; try simp only [syT, true_and, and_true])
   have e1 : zad y.ls = y.ls.length := rfl
   have e2 : zad y.cs = y.cs.length := rfl
   refine ⟨fun hlt => ⟨?_, fun h1 => ?_, fun h1 => ⟨fun h2 => ?_, fun h2 => ⟨⟨0, ?_⟩, fun j hj => ?_⟩⟩⟩, fun hge => ⟨⟨0, ?_⟩, fun k hk => ?_⟩⟩
   · (subst hL; subst hQ; simp only [L2, L3, std] at *; try simp only [syS, reduceCtorEq, Int.reduceToNat, Int.reduceAdd, Int.reduceSub] at *)
     omega
   · (subst hL; subst hQ; simp only [L2, L3, std] at *; try simp only [syS, reduceCtorEq, Int.reduceToNat, Int.reduceAdd, Int.reduceSub] at *)
     exact (zlr (zdn (V := lsV) (i := i) (by omega) (ygt h1))).symm
   · (subst hL; subst hQ; simp only [L2, L3, std] at *; try simp only [syS, reduceCtorEq, Int.reduceToNat, Int.reduceAdd, Int.reduceSub] at *)
     exact (zlr (zdn (V := lsV) (i := i) (by omega) (ygs h2))).symm
   · (cbv; try simp only [syT, true_and, and_true])
     (subst hL; subst hQ; simp only [L2, L3, std] at *; try simp only [syS, reduceCtorEq, Int.reduceToNat, Int.reduceAdd, Int.reduceSub] at *)
     exact zi8 _ _ _
   · cbv at hj
     (cbv; try simp only [syT, true_and, and_true])
     have e3 : ∀ z : Ls, zad z.rs = z.rs.length := fun _ => rfl
     refine ⟨fun hlt2 => ⟨?_, fun h3 => ?_, fun h3 => ⟨j + 1, ?_⟩⟩, fun hge2 => ⟨i + 1, ?_⟩⟩
     · (subst hL; subst hQ; simp only [L2, L3, std] at *; try simp only [syS, reduceCtorEq, Int.reduceToNat, Int.reduceAdd, Int.reduceSub] at *)
       omega
     · (subst hL; subst hQ; simp only [L2, L3, std] at *; try simp only [syS, reduceCtorEq, Int.reduceToNat, Int.reduceAdd, Int.reduceSub] at *)
       have e4 := e3 (za4 y.ls i)
       exact (zlr (zdn (V := lsV) (i := i) (by omega) (ygu (zdn (V := rtV) (i := j) (by show j < (za4 y.ls i).rs.length; omega) (ygq (by
         show 300 < ((zb5 (za4 y.ls i).rs j).h.length : Int) \/ 300 < ((zb5 (za4 y.ls i).rs j).p.length : Int) \/ 300 < ((zb5 (za4 y.ls i).rs j).c.length : Int)
         omega)))))).symm
     · (cbv; try simp only [syT, true_and, and_true])
       (subst hL; subst hQ; simp only [L2, L3, std] at *; try simp only [syS, reduceCtorEq, Int.reduceToNat, Int.reduceAdd, Int.reduceSub] at *)
       have e4 := e3 (za4 y.ls i)
       refine ⟨by omega, zdk hj (by omega) (ygp ?_ ?_ ?_), ?_⟩
       · show ((zb5 (za4 y.ls i).rs j).h.length : Int) <= 300
         omega
       · show ((zb5 (za4 y.ls i).rs j).p.length : Int) <= 300
         omega
       · show ((zb5 (za4 y.ls i).rs j).c.length : Int) <= 300
         omega
       · show (za4 y.ls i).rs.length - (j + 1) < (za4 y.ls i).rs.length - j
         omega
     · (cbv; try simp only [syT, true_and, and_true])
       (subst hL; subst hQ; simp only [L2, L3, std] at *; try simp only [syS, reduceCtorEq, Int.reduceToNat, Int.reduceAdd, Int.reduceSub] at *)
       have e4 := e3 (za4 y.ls i)
       refine ⟨by omega, zdk hi (by omega) (ygr h1 (by show ((za4 y.ls i).rs.length : Int) <= 12; omega) (zei hj (by show (za4 y.ls i).rs.length <= j; omega))), ?_⟩
       show y.ls.length - (i + 1) < y.ls.length - i
       omega
   · (cbv; try simp only [syT, true_and, and_true])
     (subst hL; subst hQ; simp only [L2, L3, std] at *; try simp only [syS, reduceCtorEq, Int.reduceToNat, Int.reduceAdd, Int.reduceSub] at *)
     exact zi8 _ _ _
   · cbv at hk
     (cbv; try simp only [syT, true_and, and_true])
     have e3 : ∀ z : Cl, zad z.es = z.es.length := fun _ => rfl
     refine ⟨fun hlt2 => ⟨?_, fun h3 => ?_, fun h3 => ⟨fun h4 => ?_, fun h4 => ⟨k + 1, ?_⟩⟩⟩, fun hge2 => ?_⟩
     · (subst hL; subst hQ; simp only [L2, L3, std] at *; try simp only [syS, reduceCtorEq, Int.reduceToNat, Int.reduceAdd, Int.reduceSub] at *)
       omega
     · (subst hL; subst hQ; simp only [L2, L3, std] at *; try simp only [syS, reduceCtorEq, Int.reduceToNat, Int.reduceAdd, Int.reduceSub] at *)
       exact (zqp (zdn (V := clV) (i := k) (by omega) (ygx h3))).symm
     · (subst hL; subst hQ; simp only [L2, L3, std] at *; try simp only [syS, reduceCtorEq, Int.reduceToNat, Int.reduceAdd, Int.reduceSub] at *)
       exact (zqp (zdn (V := clV) (i := k) (by omega) (ygy h4))).symm
     · (cbv; try simp only [syT, true_and, and_true])
       (subst hL; subst hQ; simp only [L2, L3, std] at *; try simp only [syS, reduceCtorEq, Int.reduceToNat, Int.reduceAdd, Int.reduceSub] at *)
       refine ⟨by omega, zdk hk (by omega) (ygw h3 h4), ?_⟩
       show y.cs.length - (k + 1) < y.cs.length - k
       omega
     · (subst hL; subst hQ; simp only [L2, L3, std] at *; try simp only [syS, reduceCtorEq, Int.reduceToNat, Int.reduceAdd, Int.reduceSub] at *)
       exact (ygv (by omega) (by omega) (zei hi (by omega)) (zei hk (by omega))).symm
theorem plEq (x y : Pl) : x = y ↔ x.a = y.a /\ x.b = y.b /\ x.c = y.c /\ x.d = y.d /\ x.p = y.p := by cases x; cases y; simp
def goEp (l : List Ep) (i : Nat) : Nat := ypx l i
def soZ (b : Bool) (e : Int) : Int := if b = true then e else 0
def yp1 (L : zaa) : zbg := (92, fun xs => match xs with | [.bool b, .int .i64 e] => some (True, .int .i64 (L2 L soZ b e)) | _ => none)
theorem zo8 : zaz Tryz.prog (yp1 std) := by
 intro xs p r h hp
 dsimp only [yp1] at h |-
 split at h <;> cases h
 try simp only [L2, L3, std] at hp |-
 rename_i b e
 refine zac (T := tt) (S := noS) (lo := noA) (lb := noA) 5 (fn := Tryz.f92) rfl rfl (by kernel_rfl) (by kernel_rfl) rfl zab (zbh _) (by kernel_rfl) ?_
 (intro L P1 Q1 hL hP hQ; cbv; subst hL; simp only [L2, L3, std, syT]; subst hQ)
 (simp only [syS, reduceCtorEq, Int.reduceToNat, Int.reduceAdd, Int.reduceSub])
 exact ⟨fun h => (if_pos h).symm, fun h => (if_neg (by rw [h]; decide)).symm⟩
def zxt (l : List Int) : Nat := l.length
def rdJ : AV -> List Int
 | .lst _ n get => (List.range n).map fun i => (get i 0).toI
 | _ => []
def okJ : AV -> Prop
 | .lst sz n get => sz = 1 /\ ∀ i, i < n -> ∃ x, get i 0 = .int .i64 x
 | .nils => True
 | _ => False
def yp7 (L : zaa) (l : List Int) : AV := .lst 1 (L zxt l) (fun i _ => .int .i64 (L2 L zdf l i))
theorem zux (n i : Nat) (f : Nat -> Int) (h : i < n) : zdf ((List.range n).map f) i = f i := by
 rw [zdf, List.getD_eq_getElem?_getD, List.getElem?_map, List.getElem?_range h]; rfl
theorem yr5 {h : Array Obj} {D : Nat -> Prop} {μ : Mu} {x : AV} {v : Value} (ho : okJ x) (r : R h D μ x v) : R h D μ (yp7 std (rdJ x)) v := by
 match x, ho with
 | .nils, _ => cases r; exact .lst0 _ _ none 0 (fun _ => rfl)
 | .lst sz n get, ho =>
   obtain ⟨rfl, ho⟩ := ho
   have e : yp7 std (rdJ (.lst 1 n get)) = .lst 1 n (fun i _ => .int .i64 (zdf (rdJ (.lst 1 n get)) i)) := by
     show AV.lst 1 (zxt (rdJ (.lst 1 n get))) _ = _
     rw [show zxt (rdJ (.lst 1 n get)) = n by simp [rdJ, zxt]]; rfl
   rw [e]
   refine zox r fun i j hi hj => ?_
   have : j = 0 := by omega
   subst this
   obtain ⟨x, hx⟩ := ho i hi
   rw [hx, rdJ, zux _ _ _ hi, hx]; rfl
theorem yx6 {P : Program} {f : FuncId} {x r : AV} {q : List AV} (ho : okJ x) (h : za7 P f (yp7 std (rdJ x) :: q) r) : za7 P f (x :: q) r :=
 ze0 (fun h D vs hr => ylg (fun v => yr5 ho) hr) h
def zj7 : List Int -> Int
 | [] => 0
 | a :: l => if a ≠ 0 then a else zj7 l
def ywc (l : List Int) (i : Nat) : Prop := i <= l.length /\ zj7 l = zj7 (l.drop i)
def ywd (l : List Int) (i : Nat) : Nat := l.length - i
theorem yjl {l : List Int} {i : Nat} (h : i < l.length) : zj7 (l.drop i) = if zdf l i ≠ 0 then zdf l i else zj7 (l.drop (i + 1)) := by
 rw [List.drop_eq_getElem_cons h, zj7, zdf, List.getD_eq_getElem?_getD, List.getElem?_eq_getElem h]; rfl
def zy6 (L : zaa) : zbg := (90, fun xs => match xs with | [x] => some (L okJ x /\ L (fun l : List Int => l.length <= 1000000) (L rdJ x), .int .i64 (L zj7 (L rdJ x))) | _ => none)
def firA (L : zaa) (l : List Int) : Nat -> St -> Option Ann := fun id st => match id with
 | 0 => some ⟨Nat, fun i => [(7, .int .i64 (L zav i))], fun i => [], [5, 6], [], fun i => L2 L ywc l i, fun i => L2 L ywd l i⟩
 | _ => none
theorem zkm : zaz Tryz.prog (zy6 std) := by
 intro xs p r h hp
 dsimp only [zy6] at h |-
 split at h <;> cases h
 try simp only [L2, L3, std] at hp |-
 rename_i x
 obtain ⟨ho, hp⟩ := hp
 refine yx6 ho ?_
 have hp : (rdJ x).length <= 1000000 := hp
 show za7 _ _ _ (.int .i64 (zj7 (rdJ x)))
 generalize rdJ x = l at hp |-
 refine za2 (T := tt) (S := noS) (lo := fun L => firA L l) (lb := noA) 5 (fn := Tryz.f90) (xs := fun L => [yp7 L l]) rfl rfl (by kernel_rfl) (by kernel_rfl) rfl zab (zbh _) (by kernel_rfl) ?_
 intro L P' Q' hL hP hQ
 (cbv; try simp only [syT, true_and, and_true])
 refine ⟨⟨0, ?_⟩, fun i hi => ?_⟩
 · (cbv; try simp only [syT, true_and, and_true])
   (subst hL; subst hQ; simp only [L2, L3, std] at *; try simp only [syS, reduceCtorEq, Int.reduceToNat, Int.reduceAdd, Int.reduceSub] at *)
   exact ⟨Nat.zero_le _, rfl⟩
 · cbv at hi
   (cbv; try simp only [syT, true_and, and_true])
   have hl : zxt l = l.length := rfl
   repeat' first | refine And.intro ?_ ?_ | refine fun (hh : (_ : Bool) = _) => ?_
   all_goals try (refine ⟨i + 1, ?_⟩; (cbv; try simp only [syT, true_and, and_true]))
   all_goals (subst hL; subst hQ; simp only [L2, L3, std] at *; try simp only [syS, reduceCtorEq, Int.reduceToNat, Int.reduceAdd, Int.reduceSub] at *)
   all_goals first
     | exact ⟨by omega, by omega⟩
     | (have q := hi.2
        rw [yjl (by omega), if_pos (by assumption)] at q
        exact q.symm)
     | (have q := hi.2
        rw [yjl (by omega), if_neg (fun h => h (by assumption))] at q
        refine ⟨by omega, ⟨by omega, q⟩, ?_⟩
        show l.length - (i + 1) + 1 <= l.length - i
        omega)
     | (have q := hi.2
        rw [List.drop_eq_nil_of_le (by omega)] at q
        exact q.symm)
     | skip
def rdT : AV -> List (List UInt8)
 | .lst _ n get => (List.range n).map fun i => match get i 0 with | .str s => s | _ => []
 | _ => []
def okT : AV -> Prop
 | .lst sz n get => sz = 1 /\ ∀ i, i < n -> ∃ x, get i 0 = .str x
 | .nils => True
 | _ => False
theorem yr2 {h : Array Obj} {D : Nat -> Prop} {μ : Mu} {x : AV} {v : Value} (ho : okT x) (r : R h D μ x v) : R h D μ (yem std (rdT x)) v := by
 match x, ho with
 | .nils, _ => cases r; exact .lst0 _ _ none 0 (fun _ => rfl)
 | .lst sz n get, ho =>
   obtain ⟨rfl, ho⟩ := ho
   have e : yem std (rdT (.lst 1 n get)) = .lst 1 n (fun i _ => .str (zca (rdT (.lst 1 n get)) i)) := by
     show AV.lst 1 (zhz (rdT (.lst 1 n get))) _ = _
     rw [show zhz (rdT (.lst 1 n get)) = n by simp [rdT, zhz]]; rfl
   rw [e]
   refine zox r fun i j hi hj => ?_
   have : j = 0 := by omega
   subst this
   obtain ⟨x, hx⟩ := ho i hi
   rw [hx, rdT, zca, List.getD_eq_getElem?_getD, List.getElem?_map, List.getElem?_range hi]
   simp only [Option.map_some, Option.getD_some, hx]
theorem ytn {P : Program} {f : FuncId} {x r : AV} {q : List AV} (ho : okT x) (h : za7 P f (yem std (rdT x) :: q) r) : za7 P f (x :: q) r :=
 ze0 (fun h D vs hr => ylg (fun v => yr2 ho) hr) h
def ixT : List (List UInt8) -> List UInt8 -> Nat -> Int
 | [], _, _ => -1
 | a :: l, s, i => if s = a then i else ixT l s (i + 1)
def yu6 (l : List (List UInt8)) (s : List UInt8) : Int := ixT l s 0
theorem yc8 : ∀ (l : List (List UInt8)) (s : List UInt8) (i : Nat), 0 <= ixT l s i ↔ s ∈ l
 | [], s, i => by simp [ixT]
 | a :: l, s, i => by
   unfold ixT
   split
   · rename_i h
     exact ⟨fun _ => by simp [h], fun _ => Int.natCast_nonneg _⟩
   · rename_i h
     rw [yc8 l s (i + 1)]
     simp [h]
def ixTo (l : List (List UInt8)) (s : List UInt8) (i : Nat) : Prop := i <= l.length /\ yu6 l s = ixT (l.drop i) s i
def ixMu (l : List (List UInt8)) (i : Nat) : Nat := l.length - i
theorem yrz {l : List (List UInt8)} {s : List UInt8} {i : Nat} (h : i < l.length) : ixT (l.drop i) s i = if s = zca l i then (i : Int) else ixT (l.drop (i + 1)) s (i + 1) := by
 rw [List.drop_eq_getElem_cons h, ixT, zca, List.getD_eq_getElem?_getD, List.getElem?_eq_getElem h]; rfl
def yrs (l : List (List UInt8)) : Prop := l.length <= 1000000
def yp6 (l : List (List UInt8)) (s : List UInt8) : Bool := decide (0 <= yu6 l s)
theorem zv4 (l : List (List UInt8)) (s : List UInt8) : yp6 l s = true ↔ s ∈ l := decide_eq_true_iff.trans (yc8 l s 0)
def ykx (L : zaa) : zbg := (181, fun xs => match xs with | [x, .str s] => some (L okT x /\ L yrs (L rdT x), .int .i64 (L2 L yu6 (L rdT x) s)) | _ => none)
def yl1 (L : zaa) : zbg := (141, fun xs => match xs with | [x, .str s] => some (L okT x /\ L yrs (L rdT x), .bool (L2 L yp6 (L rdT x) s)) | _ => none)
def sixA (L : zaa) (l : List (List UInt8)) (s : List UInt8) : Nat -> St -> Option Ann := fun id st => match id with
 | 0 => some ⟨Nat, fun i => [(8, .int .i64 (L zav i))], fun i => [], [0, 1, 6, 7], [], fun i => L3 L ixTo l s i, fun i => L2 L ixMu l i⟩
 | _ => none
theorem zog (l : List (List UInt8)) : rdT (.lst 1 (zhz l) fun i _ => .str (zca l i)) = l /\ okT (.lst 1 (zhz l) fun i _ => .str (zca l i)) := by
 refine ⟨?_, rfl, fun i _ => ⟨_, rfl⟩⟩
 unfold rdT
 apply List.ext_getElem
 · simp [zhz]
 · intro i h1 h2
   simp only [List.getElem_map, List.getElem_range]
   rw [zca, List.getD_eq_getElem?_getD, List.getElem?_eq_getElem h2]; rfl
theorem yf4 : zaz Tryz.prog (ykx std) := by
 intro xs p r h hp
 dsimp only [ykx] at h |-
 split at h <;> cases h
 try simp only [L2, L3, std] at hp |-
 rename_i x s
 obtain ⟨ho, hp⟩ := hp
 refine ytn ho ?_
 have hp : (rdT x).length <= 1000000 := hp
 show za7 _ _ _ (.int .i64 (yu6 (rdT x) s))
 generalize rdT x = l at hp |-
 refine za2 (T := tt) (S := noS) (lo := fun L => sixA L l s) (lb := noA) 5 (fn := Tryz.f181) (xs := fun L => [yem L l, .str s]) rfl rfl (by kernel_rfl) (by kernel_rfl) rfl zab (zbh _) (by kernel_rfl) ?_
 intro L P' Q' hL hP hQ
 (cbv; try simp only [syT, true_and, and_true])
 refine ⟨⟨0, ?_⟩, fun i hi => ?_⟩
 · (cbv; try simp only [syT, true_and, and_true])
   (subst hL; subst hQ; simp only [L2, L3, std] at *; try simp only [syS, reduceCtorEq, Int.reduceToNat, Int.reduceAdd, Int.reduceSub] at *)
   exact ⟨Nat.zero_le _, rfl⟩
 · cbv at hi
   (cbv; try simp only [syT, true_and, and_true])
   have hl : zhz l = l.length := rfl
   repeat' first | refine And.intro ?_ ?_ | refine fun (hh : (_ : Bool) = _) => ?_
   all_goals try (refine ⟨i + 1, ?_⟩; (cbv; try simp only [syT, true_and, and_true]))
   all_goals (subst hL; subst hQ; simp only [L2, L3, std] at *; try simp only [syS, reduceCtorEq, Int.reduceToNat, Int.reduceAdd, Int.reduceSub] at *)
   all_goals first
     | exact ⟨by omega, by omega⟩
     | (have q := hi.2
        rw [yrz (by omega), if_pos (by assumption)] at q
        exact q.symm)
     | (have q := hi.2
        rw [yrz (by omega), if_neg (by assumption)] at q
        refine ⟨by omega, ⟨by omega, q⟩, ?_⟩
        show l.length - (i + 1) + 1 <= l.length - i
        omega)
     | (have q := hi.2
        rw [List.drop_eq_nil_of_le (by omega)] at q
        exact q.symm)
theorem yf7 : zaz Tryz.prog (yl1 std) := by
 intro xs p r h hp
 dsimp only [yl1] at h |-
 split at h <;> cases h
 try simp only [L2, L3, std] at hp |-
 rename_i x s
 obtain ⟨ho, hp⟩ := hp
 refine ytn ho ?_
 have hp : yrs (rdT x) := hp
 show za7 _ _ _ (.bool (yp6 (rdT x) s))
 generalize rdT x = l at hp |-
 refine za2 (T := tt) (S := fun L => zao [ykx L]) (lo := fun _ => noA std) (lb := noA) 5 (fn := Tryz.f141) (xs := fun L => [yem L l, .str s]) rfl rfl (by kernel_rfl) (by kernel_rfl) rfl zab (za3 ⟨yf4, trivial⟩) (by kernel_rfl) ?_
 intro L P' Q' hL hP hQ
 (cbv; try simp only [syT, true_and, and_true])
 (subst hL; subst hQ; simp only [L2, L3, std] at *; try simp only [syS, reduceCtorEq, Int.reduceToNat, Int.reduceAdd, Int.reduceSub] at *)
 rw [(zog l).1]
 refine ⟨⟨(zog l).2, hp⟩, ?_⟩
 rfl
def ym3 (s : List UInt8) (l : List (List UInt8)) : Int := if zfj s = false then 4 else if yp6 l s = true then 11 else 0
def yga (L : zaa) : zbg := (91, fun xs => match xs with | [.str s, x] => some (L okT x /\ L yrs (L rdT x), .int .i64 (L2 L ym3 s (L rdT x))) | _ => none)
theorem zv0 : zaz Tryz.prog (yga std) := by
 intro xs p r h hp
 dsimp only [yga] at h |-
 split at h <;> cases h
 try simp only [L2, L3, std] at hp |-
 rename_i s x
 obtain ⟨ho, hp⟩ := hp
 refine ze0 (fun h D vs hr => yql (fun v => yr2 ho) hr) ?_
 have hp : yrs (rdT x) := hp
 show za7 _ _ [.str s, yem std (rdT x)] (.int .i64 (ym3 s (rdT x)))
 generalize rdT x = l at hp |-
 refine za2 (T := tt) (S := fun L => zao [zv1 L, yl1 L]) (lo := fun _ => noA std) (lb := noA) 5 (fn := Tryz.f91) (xs := fun L => [.str s, yem L l]) rfl rfl (by kernel_rfl) (by kernel_rfl) rfl zab (za3 ⟨zqj, yf7, trivial⟩) (by kernel_rfl) ?_
 intro L P' Q' hL hP hQ
 (cbv; try simp only [syT, true_and, and_true])
 (subst hL; subst hQ; simp only [L2, L3, std] at *; try simp only [syS, reduceCtorEq, Int.reduceToNat, Int.reduceAdd, Int.reduceSub] at *)
 rw [(zog l).1]
 refine ⟨fun h => (if_pos h).symm, fun h => ⟨⟨(zog l).2, hp⟩, fun k => ?_, fun k => ?_⟩⟩
 · exact ((if_neg (by rw [h]; decide)).trans (if_pos k)).symm
 · exact ((if_neg (by rw [h]; decide)).trans (if_neg (by rw [k]; decide))).symm
def dgI (n : Int) : List UInt8 := zcu (n % 18446744073709551616)
theorem zdi (n : Int) : (dgI n).length <= 20 := by
 unfold dgI zcu
 rw [Lib.decDigits_length]
 generalize hN : (n % 18446744073709551616).toNat = N
 have hN2 : N < 18446744073709551616 := by omega
 by_cases h0 : N = 0
 · subst h0; rw [Lib.nDigits_small (by decide)]; decide
 · have := Lib.numDigits_eq N (by omega) hN2
   split at this <;> omega
def whZ (w : List UInt8) (l : List Int) : List UInt8 := Lib.join (w :: l.map dgI) [32]
def yk8 (w : List UInt8) (l : List Int) : Prop := w.length <= 100 /\ l.length <= 2
theorem ypm (w : List UInt8) (i : Int) : whZ w [i] = w ++ ([32] ++ dgI i) := by
 unfold whZ
 rw [Lib.join_cons]
 simp [Lib.joinTail]
theorem ypl (w : List UInt8) (i k : Int) : whZ w [i, k] = w ++ ([32] ++ (dgI i ++ ([32] ++ dgI k))) := by
 unfold whZ
 rw [Lib.join_cons]
 simp [Lib.joinTail]
theorem yk7 {w : List UInt8} {l : List Int} (h : yk8 w l) : (whZ w l).length <= 200 := by
 obtain ⟨h1, h2⟩ := h
 match l, h2 with
 | [], _ =>
   rw [whZ, List.map_nil, Lib.join_one]; omega
 | [i], _ =>
   have := zdi i
   rw [ypm]
   simp only [List.length_append, List.length_cons, List.length_nil]
   omega
 | [i, k], _ =>
   have := zdi i
   have := zdi k
   rw [ypl]
   simp only [List.length_append, List.length_cons, List.length_nil]
   omega
def zmy (i : Nat) : Nat := i + 1
def wps (w : List UInt8) (l : List Int) (i : Nat) : List (List UInt8) := w :: (l.take i).map dgI
def leJ (l : List Int) (i : Nat) : Prop := i <= l.length
def goJ (l : List Int) (i : Nat) : Nat := l.length - i
theorem ypk {w : List UInt8} {l : List Int} {i : Nat} (h : i < l.length) (q : Nat) : zca (wps w l (i + 1)) q = if q = i + 1 then dgI (zdf l i) else zca (wps w l i) q := by
 have e : wps w l (i + 1) = wps w l i ++ [dgI (zdf l i)] := by
   rw [wps, wps, List.take_succ_eq_append_getElem h, List.map_append, zdf, List.getD_eq_getElem?_getD, List.getElem?_eq_getElem h]; rfl
 have hl : (wps w l i).length = i + 1 := by simp [wps]; omega
 rw [e, zca, zca, List.getD_eq_getElem?_getD, List.getD_eq_getElem?_getD]
 by_cases hq : q < i + 1
 · rw [if_neg (by omega), List.getElem?_append_left (by omega)]
 · rw [List.getElem?_append_right (by omega)]
   by_cases hq2 : q = i + 1
   · rw [if_pos hq2, hl, hq2, Nat.sub_self]; rfl
   · rw [if_neg hq2, hl, List.getElem?_eq_none (by simp; omega), List.getElem?_eq_none (by omega)]
theorem yb9 (l : List (List UInt8)) {n : Nat} (h : n = l.length) : zcj n (fun q _ => .str (zca l q)) = l := by
 subst h
 unfold zcj
 apply List.ext_getElem
 · simp
 · intro i h1 h2
   simp only [List.getElem_map, List.getElem_range]
   show zca l i = _
   rw [zca, List.getD_eq_getElem?_getD, List.getElem?_eq_getElem h2]; rfl
theorem zz5 {w : List UInt8} {l : List Int} {i : Nat} (h : i = l.length) (ho : yk8 w l) : yu5 [32] (.lst 1 (zmy i) (fun q _ => .str (zca (wps w l i) q))) /\ jnZ [32] (.lst 1 (zmy i) (fun q _ => .str (zca (wps w l i) q))) = whZ w l := by
 subst h
 have e : zcj (zmy l.length) (fun q _ => .str (zca (wps w l l.length) q)) = w :: l.map dgI := by
   rw [yb9 (wps w l l.length) (by simp [wps, zmy]), wps, List.take_length]
 have hl := yk7 ho
 have h2 := ho.2
 refine ⟨⟨fun i _ => ⟨_, rfl⟩, by show l.length + 1 <= 1000000; omega, ?_⟩, ?_⟩
 · rw [e]
   show (whZ w l).length <= _
   omega
 · show Lib.join (zcj _ _) _ = _
   rw [e]; rfl
def yk6 (L : zaa) : zbg := (48, fun xs => match xs with | [.str w, x] => some (L okJ x /\ L2 L yk8 w (L rdJ x), .str (L2 L whZ w (L rdJ x))) | _ => none)
def wheA (L : zaa) (w : List UInt8) (l : List Int) : Nat -> St -> Option Ann := fun id st => match id with
 | 0 => some ⟨Nat, fun i => [(12, .int .i64 (L zav i)), (5, .sl 900 1 0 (L zmy i))], fun i => [(900, .row 9 1 (L zmy i) (fun q _ => .str (L2 L zca (L3 L wps w l i) q)))], [10, 11], [], fun i => L2 L leJ l i, fun i => L2 L goJ l i⟩
 | _ => none
theorem yev : zaz Tryz.prog (yk6 std) := by
 intro xs p r h hp
 dsimp only [yk6] at h |-
 split at h <;> cases h
 try simp only [L2, L3, std] at hp |-
 rename_i w x
 obtain ⟨ho, hp⟩ := hp
 refine ze0 (fun h D vs hr => yql (fun v => yr5 ho) hr) ?_
 have hp : yk8 w (rdJ x) := hp
 show za7 _ _ [.str w, yp7 std (rdJ x)] (.str (whZ w (rdJ x)))
 generalize rdJ x = l at hp |-
 refine za2 (T := tt) (S := fun L => zao [yhu L, yu4 L]) (lo := fun L => wheA L w l) (lb := noA) 5 (fn := Tryz.f48) (xs := fun L => [.str w, yp7 L l]) rfl rfl (by kernel_rfl) (by kernel_rfl) rfl zab (za3 ⟨zvs, yc7, trivial⟩) (by kernel_rfl) ?_
 intro L P' Q' hL hP hQ
 (cbv; try simp only [syT, true_and, and_true])
 refine ⟨⟨0, ?_⟩, fun i hi => ?_⟩
 · (cbv; try simp only [syT, true_and, and_true])
   (subst hL; subst hQ; simp only [L2, L3, std] at *; try simp only [syS, reduceCtorEq, Int.reduceToNat, Int.reduceAdd, Int.reduceSub] at *)
   exact ⟨⟨rfl, fun _ _ _ _ => rfl⟩, rfl, Nat.zero_le _⟩
 · cbv at hi
   (cbv; try simp only [syT, true_and, and_true])
   have hl : zxt l = l.length := rfl
   repeat' first | refine And.intro ?_ ?_ | refine fun (hh : (_ : Bool) = _) => ?_
   all_goals try (refine ⟨i + 1, ?_⟩; (cbv; try simp only [syT, true_and, and_true]))
   all_goals (subst hL; subst hQ; simp only [L2, L3, std] at *; try simp only [syS, reduceCtorEq, Int.reduceToNat, Int.reduceAdd, Int.reduceSub] at *)
   all_goals have hi : i <= l.length := hi
   all_goals have hp2 : l.length <= 2 := hp.2
   · omega
   · exact ⟨by omega, by omega⟩
   · have : zmy i = i + 1 := rfl
     omega
   · refine ⟨⟨rfl, fun a b ha hb => ?_⟩, rfl, by omega, by show i + 1 <= l.length; omega, by show l.length - (i + 1) + 1 <= l.length - i; omega⟩
     have ha : a < i + 1 + 1 := ha
     rw [ypk (by omega)]
     by_cases h : a < i + 1
     · rw [zgl (show a < zmy i from h), if_neg (by omega)]; rfl
     · obtain rfl : a = i + 1 := by omega
       rw [zht (show ¬ i + 1 < zmy i from h), if_pos rfl, show i + 1 - zmy i = 0 from Nat.sub_self _]; rfl
   · exact (zz5 (by omega) hp).1
   · exact (zz5 (by omega) hp).2
def yle (L : zaa) : zbg := (56, fun xs => match xs with | [.int .i64 n] => some (True, .str (L dgI n)) | _ => none)
theorem yfp : zaz Tryz.prog (yle std) := by
 intro xs p r h hp
 dsimp only [yle] at h |-
 split at h <;> cases h
 try simp only [L2, L3, std] at hp |-
 rename_i n
 refine zac (T := tt) (S := fun L => zao [yat L]) (lo := noA) (lb := noA) 5 (fn := Tryz.f56) rfl rfl (by kernel_rfl) (by kernel_rfl) rfl zab (za3 ⟨yau, trivial⟩) (by kernel_rfl) ?_
 (intro L P1 Q1 hL hP hQ; cbv; subst hL; simp only [L2, L3, std, syT]; subst hQ)
 (simp only [syS, reduceCtorEq, Int.reduceToNat, Int.reduceAdd, Int.reduceSub])
 exact ⟨⟨by omega, by omega⟩, rfl⟩
def zmp (x : Cf) : Prop := zfn x.ls /\ zfn x.cs /\ (∀ l ∈ x.ls, zfn l.rs) /\ ∀ c ∈ x.cs, zfn c.es
def leW {α : Type} (l : List α) (i : Nat) : Prop := i <= l.length
def leLs (l : List Ls) (i : Nat) : Prop := leW l i
def leRt (l : List Rt) (i : Nat) : Prop := leW l i
def leCl (l : List Cl) (i : Nat) : Prop := leW l i
def leEp (l : List Ep) (i : Nat) : Prop := leW l i
def ywa (l : List Ep) (i : Nat) : Nat := ypx l i
def yus (L : zaa) : zbg := (15, fun xs => match xs with
 | [x] => some (L zd2 x /\ L zmp (L zah x), .agg [.int .u64 (L Cf.v (L zah x)), zd3 L (L Cf.ls (L zah x)), zcn L (L Cf.cs (L zah x))])
 | _ => none)
def cfTo (L : zaa) (y : Cf) : Nat -> St -> Option Ann := fun id st => match id with
 | 0 => some ⟨Nat, fun i => [(20, .int .i64 (L zav i)), (3, .ref 3 0)], fun i => [(3, .box 49 [.int .u64 (L Cf.v y), .sl 901 7 0 i, .nils]), (901, .row 99 7 i (fun q => lsC L (L (L za4 (L Cf.ls y)) q)))], [1, 2, 18, 19], [1, 2], fun i => L2 L leLs (L Cf.ls y) i, fun i => L2 L yna (L Cf.ls y) i⟩
 | 2 => zal st 20 fun k => some ⟨Nat, fun j => [(32, .int .i64 (L zav j)), (6, .ref 6 0)],
     fun j => [(6, .box 99 [.str (L Ls.n (L2 L za4 (L Cf.ls y) (L Int.toNat k))), plC L (L Ls.pl (L2 L za4 (L Cf.ls y) (L Int.toNat k))) 0, plC L (L Ls.pl (L2 L za4 (L Cf.ls y) (L Int.toNat k))) 1, plC L (L Ls.pl (L2 L za4 (L Cf.ls y) (L Int.toNat k))) 2, plC L (L Ls.pl (L2 L za4 (L Cf.ls y) (L Int.toNat k))) 3, plC L (L Ls.pl (L2 L za4 (L Cf.ls y) (L Int.toNat k))) 4, .sl 902 4 0 j]),
       (902, .row 100 4 j (fun q => rtC L (L (L zb5 (L Ls.rs (L2 L za4 (L Cf.ls y) (L Int.toNat k)))) q)))], [1, 2, 3, 18, 19, 20, 30, 31], [1, 2, 3, 901], fun j => L2 L leRt (L Ls.rs (L2 L za4 (L Cf.ls y) (L Int.toNat k))) j, fun j => L2 L ysc (L Ls.rs (L2 L za4 (L Cf.ls y) (L Int.toNat k))) j⟩
 | 4 => some ⟨Nat, fun i => [(53, .int .i64 (L zav i)), (3, .ref 3 0)], fun i => [(3, .box 49 [.int .u64 (L Cf.v y), .sl 905 7 0 (L zad (L Cf.ls y)), .sl 903 2 0 i]), (905, .row 99 7 (L zad (L Cf.ls y)) (fun q => lsC L (L (L za4 (L Cf.ls y)) q))), (903, .row 103 2 i (fun q => clC L (L (L za5 (L Cf.cs y)) q)))], [2, 51, 52], [2], fun i => L2 L leCl (L Cf.cs y) i, fun i => L2 L yeq (L Cf.cs y) i⟩
 | 6 => zal st 53 fun k => some ⟨Nat, fun j => [(63, .int .i64 (L zav j)), (11, .ref 11 0)],
     fun j => [(11, .box 103 [.str (L Cl.n (L2 L za5 (L Cf.cs y) (L Int.toNat k))), .sl 904 6 0 j]),
       (904, .row 105 6 j (fun q => epC L (L (L zb6 (L Cl.es (L2 L za5 (L Cf.cs y) (L Int.toNat k)))) q)))], [2, 3, 51, 52, 53, 61, 62], [2, 3, 903, 905], fun j => L2 L leEp (L Cl.es (L2 L za5 (L Cf.cs y) (L Int.toNat k))) j, fun j => L2 L ywa (L Cl.es (L2 L za5 (L Cf.cs y) (L Int.toNat k))) j⟩
 | _ => none
theorem zo4 {y : Cf} (hp : zmp y) {i : Nat} (hi : i < y.ls.length) : (za4 y.ls i).rs.length <= 1000000 := hp.2.2.1 _ (by rw [za4, zak (V := lsV) hi]; exact List.getElem_mem _)
theorem zo5 {y : Cf} (hp : zmp y) {i : Nat} (hi : i < y.cs.length) : (za5 y.cs i).es.length <= 1000000 := hp.2.2.2 _ (by rw [za5, zak (V := clV) hi]; exact List.getElem_mem _)
theorem ykh : zaz Tryz.prog (yus std) := by
 intro xs p r h hp
 dsimp only [yus] at h |-
 split at h <;> cases h
 try simp only [L2, L3, std] at hp |-
 rename_i x
 obtain ⟨ho, hp⟩ := hp
 refine zk2 zbi ho ?_
 have hp : zmp (zah x) := hp
 show za7 _ _ [.agg [.int .u64 (zah x).v, zd3 std (zah x).ls, zcn std (zah x).cs]] _
 generalize zah x = y at hp |-
 refine za2 (T := tt) (S := noS) (lo := fun L => cfTo L y) (lb := noA) 5 (fn := Tryz.f15) (xs := fun L => [.agg [.int .u64 (L Cf.v y), zd3 L (L Cf.ls y), zcn L (L Cf.cs y)]]) rfl rfl (by kernel_rfl) (by kernel_rfl) rfl zab (zbh _) (by kernel_rfl) ?_
 intro L P' Q' hL hP hQ
 (cbv; try simp only [syT, true_and, and_true])
 refine ⟨⟨0, ?_⟩, fun i hi => ?_⟩
 · (cbv; try simp only [syT, true_and, and_true])
   (subst hL; subst hQ; simp only [L2, L3, std] at *; try simp only [syS, reduceCtorEq, Int.reduceToNat, Int.reduceAdd, Int.reduceSub] at *)
   exact Nat.zero_le _
 · cbv at hi
   (cbv; try simp only [syT, true_and, and_true])
   have e1 : zad y.ls = y.ls.length := rfl
   have e2 : zad y.cs = y.cs.length := rfl
   refine ⟨fun hlt => ⟨?_, ⟨⟨0, ?_⟩, fun j hj => ?_⟩⟩, fun hge => ⟨⟨0, ?_⟩, fun k hk => ?_⟩⟩
   · (subst hL; subst hQ; simp only [L2, L3, std] at *; try simp only [syS, reduceCtorEq, Int.reduceToNat, Int.reduceAdd, Int.reduceSub] at *)
     omega
   · (cbv; try simp only [syT, true_and, and_true])
     (subst hL; subst hQ; simp only [L2, L3, std] at *; try simp only [syS, reduceCtorEq, Int.reduceToNat, Int.reduceAdd, Int.reduceSub] at *)
     exact Nat.zero_le _
   · cbv at hj
     (cbv; try simp only [syT, true_and, and_true])
     have e3 : ∀ z : Ls, zad z.rs = z.rs.length := fun _ => rfl
     refine ⟨fun hlt2 => ⟨?_, ?_, ⟨j + 1, ?_⟩⟩, fun hge2 => ⟨?_, ⟨i + 1, ?_⟩⟩⟩
     · (subst hL; subst hQ; simp only [L2, L3, std] at *; try simp only [syS, reduceCtorEq, Int.reduceToNat, Int.reduceAdd, Int.reduceSub] at *)
       omega
     · (subst hL; subst hQ; simp only [L2, L3, std] at *; try simp only [syS, reduceCtorEq, Int.reduceToNat, Int.reduceAdd, Int.reduceSub] at *)
       have e4 := e3 (za4 y.ls i)
       have hm := zo4 hp (i := i) (by omega)
       omega
     · (cbv; try simp only [syT, true_and, and_true])
       (subst hL; subst hQ; simp only [L2, L3, std] at *; try simp only [syS, reduceCtorEq, Int.reduceToNat, Int.reduceAdd, Int.reduceSub] at *)
       have e4 := e3 (za4 y.ls i)
       have hm := zo4 hp (i := i) (by omega)
       refine ⟨fun a b ha hb => ?_, by omega, ?_, ?_⟩
       · by_cases h : a < j
         · rw [zgl h, show a - j = 0 by omega, Nat.zero_mul, Nat.zero_add]
           match b, hb with
           | 0, _ => rfl
           | 1, _ => rfl
           | 2, _ => rfl
           | 3, _ => rfl
         · obtain rfl : a = j := by omega
           rw [zht (by omega), Nat.sub_self, Nat.zero_mul, Nat.zero_add]
           match b, hb with
           | 0, _ => rfl
           | 1, _ => rfl
           | 2, _ => rfl
           | 3, _ => rfl
       · show j + 1 <= (za4 y.ls i).rs.length
         omega
       · show (za4 y.ls i).rs.length - (j + 1) + 1 <= (za4 y.ls i).rs.length - j
         omega
     · (subst hL; subst hQ; simp only [L2, L3, std] at *; try simp only [syS, reduceCtorEq, Int.reduceToNat, Int.reduceAdd, Int.reduceSub] at *)
       have hm := hp.1
       unfold zfn at hm
       omega
     · (cbv; try simp only [syT, true_and, and_true])
       (subst hL; subst hQ; simp only [L2, L3, std] at *; try simp only [syS, reduceCtorEq, Int.reduceToNat, Int.reduceAdd, Int.reduceSub] at *)
       have e4 := e3 (za4 y.ls i)
       have hj' : j <= (za4 y.ls i).rs.length := hj
       have hm := hp.1
       unfold zfn at hm
       refine ⟨fun a b ha hb => ?_, by omega, ?_, ?_⟩
       · by_cases h : a < i
         · rw [zgl h, show a - i = 0 by omega, Nat.zero_mul, Nat.zero_add]
           match b, hb with
           | 0, _ => rfl
           | 1, _ => rfl
           | 2, _ => rfl
           | 3, _ => rfl
           | 4, _ => rfl
           | 5, _ => rfl
           | 6, _ => rfl
         · obtain rfl : a = i := by omega
           rw [zht (by omega), Nat.sub_self, Nat.zero_mul, Nat.zero_add]
           match b, hb with
           | 0, _ => rfl
           | 1, _ => rfl
           | 2, _ => rfl
           | 3, _ => rfl
           | 4, _ => rfl
           | 5, _ => rfl
           | 6, _ =>
             show AV.lst 4 j _ = AV.lst 4 (zad (za4 y.ls a).rs) _
             rw [show j = zad (za4 y.ls a).rs by omega]
             rfl
       · show i + 1 <= y.ls.length
         omega
       · show y.ls.length - (i + 1) + 1 <= y.ls.length - i
         omega
   · (cbv; try simp only [syT, true_and, and_true])
     (subst hL; subst hQ; simp only [L2, L3, std] at *; try simp only [syS, reduceCtorEq, Int.reduceToNat, Int.reduceAdd, Int.reduceSub] at *)
     have hi' : i <= y.ls.length := hi
     exact ⟨by omega, by omega, Nat.zero_le _⟩
   · cbv at hk
     (cbv; try simp only [syT, true_and, and_true])
     have e3 : ∀ z : Cl, zad z.es = z.es.length := fun _ => rfl
     refine ⟨fun hlt => ⟨?_, ⟨⟨0, ?_⟩, fun j hj => ?_⟩⟩, fun hge => ?_⟩
     · (subst hL; subst hQ; simp only [L2, L3, std] at *; try simp only [syS, reduceCtorEq, Int.reduceToNat, Int.reduceAdd, Int.reduceSub] at *)
       omega
     · (cbv; try simp only [syT, true_and, and_true])
       (subst hL; subst hQ; simp only [L2, L3, std] at *; try simp only [syS, reduceCtorEq, Int.reduceToNat, Int.reduceAdd, Int.reduceSub] at *)
       exact Nat.zero_le _
     · cbv at hj
       (cbv; try simp only [syT, true_and, and_true])
       refine ⟨fun hlt2 => ⟨?_, ?_, ⟨j + 1, ?_⟩⟩, fun hge2 => ⟨?_, ⟨k + 1, ?_⟩⟩⟩
       · (subst hL; subst hQ; simp only [L2, L3, std] at *; try simp only [syS, reduceCtorEq, Int.reduceToNat, Int.reduceAdd, Int.reduceSub] at *)
         omega
       · (subst hL; subst hQ; simp only [L2, L3, std] at *; try simp only [syS, reduceCtorEq, Int.reduceToNat, Int.reduceAdd, Int.reduceSub] at *)
         have e4 := e3 (za5 y.cs k)
         have hm := zo5 hp (i := k) (by omega)
         omega
       · (cbv; try simp only [syT, true_and, and_true])
         (subst hL; subst hQ; simp only [L2, L3, std] at *; try simp only [syS, reduceCtorEq, Int.reduceToNat, Int.reduceAdd, Int.reduceSub] at *)
         have e4 := e3 (za5 y.cs k)
         have hm := zo5 hp (i := k) (by omega)
         refine ⟨fun a b ha hb => ?_, by omega, ?_, ?_⟩
         · by_cases h : a < j
           · rw [zgl h, show a - j = 0 by omega, Nat.zero_mul, Nat.zero_add]
             match b, hb with
             | 0, _ => rfl
             | 1, _ => rfl
             | 2, _ => rfl
             | 3, _ => rfl
             | 4, _ => rfl
             | 5, _ => rfl
           · obtain rfl : a = j := by omega
             rw [zht (by omega), Nat.sub_self, Nat.zero_mul, Nat.zero_add]
             match b, hb with
             | 0, _ => rfl
             | 1, _ => rfl
             | 2, _ => rfl
             | 3, _ => rfl
             | 4, _ => rfl
             | 5, _ => rfl
         · show j + 1 <= (za5 y.cs k).es.length
           omega
         · show (za5 y.cs k).es.length - (j + 1) + 1 <= (za5 y.cs k).es.length - j
           omega
       · (subst hL; subst hQ; simp only [L2, L3, std] at *; try simp only [syS, reduceCtorEq, Int.reduceToNat, Int.reduceAdd, Int.reduceSub] at *)
         have hm := hp.2.1
         unfold zfn at hm
         omega
       · (cbv; try simp only [syT, true_and, and_true])
         (subst hL; subst hQ; simp only [L2, L3, std] at *; try simp only [syS, reduceCtorEq, Int.reduceToNat, Int.reduceAdd, Int.reduceSub] at *)
         have e4 := e3 (za5 y.cs k)
         have hj' : j <= (za5 y.cs k).es.length := hj
         have hm := hp.2.1
         unfold zfn at hm
         refine ⟨fun a b ha hb => ?_, by omega, ?_, ?_⟩
         · by_cases h : a < k
           · rw [zgl h, show a - k = 0 by omega, Nat.zero_mul, Nat.zero_add]
             match b, hb with
             | 0, _ => rfl
             | 1, _ => rfl
           · obtain rfl : a = k := by omega
             rw [zht (by omega), Nat.sub_self, Nat.zero_mul, Nat.zero_add]
             match b, hb with
             | 0, _ => rfl
             | 1, _ =>
               show AV.lst 6 j _ = AV.lst 6 (zad (za5 y.cs a).es) _
               rw [show j = zad (za5 y.cs a).es by omega]
               rfl
         · show k + 1 <= y.cs.length
           omega
         · show y.cs.length - (k + 1) + 1 <= y.cs.length - k
           omega
     · (subst hL; subst hQ; simp only [L2, L3, std] at *; try simp only [syS, reduceCtorEq, Int.reduceToNat, Int.reduceAdd, Int.reduceSub] at *)
       have hk' : k <= y.cs.length := hk
       obtain rfl : k = zad y.cs := by omega
       show fits1 (.agg [.lst 7 (zad y.ls) (fun i => lsC std (za4 y.ls i)), .lst 2 (zad y.cs) (fun i => clC std (za5 y.cs i))]) _
       rw [ze5, ze5]
       exact ⟨⟨rfl, fun _ _ _ _ => rfl⟩, ⟨rfl, fun _ _ _ _ => rfl⟩, trivial⟩
def yac (L : zaa) : zbg := (84, fun xs => match xs with | [.str s] => some (True, .agg [.int .i64 2, .int .u64 0, .str s, .nils]) | _ => none)
theorem yad : zaz Tryz.prog (yac std) := by
 intro xs p r h hp
 dsimp only [yac] at h |-
 split at h <;> cases h
 try simp only [L2, L3, std] at hp |-
 refine zac (T := tt) (S := noS) (lo := noA) (lb := noA) 5 (fn := Tryz.f84) rfl rfl (by kernel_rfl) (by kernel_rfl) rfl zab (zbh _) (by kernel_rfl) ?_
 (intro L P1 Q1 hL hP hQ; cbv; subst hL; simp only [L2, L3, std, syT]; subst hQ)
 (simp only [syS, reduceCtorEq, Int.reduceToNat, Int.reduceAdd, Int.reduceSub])
 exact trivial
def yah (L : zaa) : zbg := (85, fun xs => match xs with | [.int .u64 n] => some (True, .agg [.int .i64 1, .int .u64 n, .str [], .nils]) | _ => none)
theorem yai : zaz Tryz.prog (yah std) := by
 intro xs p r h hp
 dsimp only [yah] at h |-
 split at h <;> cases h
 try simp only [L2, L3, std] at hp |-
 refine zac (T := tt) (S := noS) (lo := noA) (lb := noA) 5 (fn := Tryz.f85) rfl rfl (by kernel_rfl) (by kernel_rfl) rfl zab (zbh _) (by kernel_rfl) ?_
 (intro L P1 Q1 hL hP hQ; cbv; subst hL; simp only [L2, L3, std, syT]; subst hQ)
 (simp only [syS, reduceCtorEq, Int.reduceToNat, Int.reduceAdd, Int.reduceSub])
 exact trivial
def yp2 (L : zaa) (y : Rt) : Nat -> AV
 | 0 => .int .i64 3
 | 1 => .int .u64 0
 | 2 => .str []
 | _ => .lst 4 4 (fun i j => zbq .dead [.int .i64 2, .int .u64 0, .str (L Rt.h y), .nils, .int .i64 2, .int .u64 0, .str (L Rt.p y), .nils, .int .i64 2, .int .u64 0, .str (L Rt.c y), .nils, .int .i64 1, .int .u64 (L Rt.i y), .str [], .nils] (i * 4 + j))
def yp3 (L : zaa) (y : Ep) : Nat -> AV
 | 0 => .int .i64 3
 | 1 => .int .u64 0
 | 2 => .str []
 | _ => .lst 4 2 (fun i j => zbq .dead [.int .i64 2, .int .u64 0, .str (L plB (L Ep.pl y)), .nils, .int .i64 1, .int .u64 (L (fun w : Int => w % 18446744073709551616) (L Ep.w y)), .str [], .nils] (i * 4 + j))
def yl9 (L : zaa) (y : Ls) : Nat -> AV
 | 0 => .int .i64 3
 | 1 => .int .u64 0
 | 2 => .str []
 | _ => .lst 4 3 (fun i j => zbq .dead [.int .i64 2, .int .u64 0, .str (L Ls.n y), .nils, .int .i64 2, .int .u64 0, .str (L plB (L Ls.pl y)), .nils, .int .i64 3, .int .u64 0, .str [], .lst 4 (L zad (L Ls.rs y)) (fun q => yp2 L (L (L zb5 (L Ls.rs y)) q))] (i * 4 + j))
def yp4 (L : zaa) (y : Cl) : Nat -> AV
 | 0 => .int .i64 3
 | 1 => .int .u64 0
 | 2 => .str []
 | _ => .lst 4 2 (fun i j => zbq .dead [.int .i64 2, .int .u64 0, .str (L Cl.n y), .nils, .int .i64 3, .int .u64 0, .str [], .lst 4 (L zad (L Cl.es y)) (fun q => yp3 L (L (L zb6 (L Cl.es y)) q))] (i * 4 + j))
def yp5 (L : zaa) (y : Cf) : Nat -> Nat -> AV := fun i j => zbq .dead [.int .i64 1, .int .u64 (L Cf.v y), .str [], .nils, .int .i64 3, .int .u64 0, .str [], .lst 4 (L zad (L Cf.ls y)) (fun q => yl9 L (L (L za4 (L Cf.ls y)) q)),
 .int .i64 3, .int .u64 0, .str [], .lst 4 (L zad (L Cf.cs y)) (fun q => yp4 L (L (L za5 (L Cf.cs y)) q))] (i * 4 + j)
def okPl (x : Cf) : Prop := zmp x /\ (∀ l ∈ x.ls, zqe l.pl) /\ ∀ c ∈ x.cs, ∀ e ∈ c.es, zqe e.pl
def ya9 (L : zaa) : zbg := (44, fun xs => match xs with
 | [x] => some (L zd2 x /\ L okPl (L zah x), .agg [.int .i64 3, .int .u64 0, .str [], .lst 4 3 (yp5 L (L zah x))])
 | _ => none)
def rvA (L : zaa) (y : Cf) : Nat -> St -> Option Ann := fun id st => match id with
 | 0 => some ⟨Nat, fun i => [(20, .int .i64 (L zav i)), (3, .ref 3 0)], fun i => [(3, .box 94 [.int .i64 3, .int .u64 0, .str [], .sl 901 4 0 i]), (901, .row 94 4 i (fun q => yl9 L (L (L za4 (L Cf.ls y)) q)))], [1, 2, 4, 18, 19], [1, 2, 4], fun i => L2 L leLs (L Cf.ls y) i, fun i => L2 L yna (L Cf.ls y) i⟩
 | 2 => zal st 20 fun k => some ⟨Nat, fun j => [(28, .int .i64 (L zav j)), (7, .ref 7 0)],
     fun j => [(7, .box 94 [.int .i64 3, .int .u64 0, .str [], .sl 902 4 0 j]), (902, .row 94 4 j (fun q => yp2 L (L (L zb5 (L Ls.rs (L2 L za4 (L Cf.ls y) (L Int.toNat k)))) q)))],
     [1, 2, 3, 4, 6, 18, 19, 20, 26, 27], [1, 2, 3, 4, 6, 901], fun j => L2 L leRt (L Ls.rs (L2 L za4 (L Cf.ls y) (L Int.toNat k))) j, fun j => L2 L ysc (L Ls.rs (L2 L za4 (L Cf.ls y) (L Int.toNat k))) j⟩
 | 4 => some ⟨Nat, fun i => [(71, .int .i64 (L zav i)), (4, .ref 4 0), (3, .ref 3 0)], fun i => [(3, .box 94 [.int .i64 3, .int .u64 0, .str [], .sl 905 4 0 (L zad (L Cf.ls y))]), (905, .row 94 4 (L zad (L Cf.ls y)) (fun q => yl9 L (L (L za4 (L Cf.ls y)) q))),
     (4, .box 94 [.int .i64 3, .int .u64 0, .str [], .sl 903 4 0 i]), (903, .row 94 4 i (fun q => yp4 L (L (L za5 (L Cf.cs y)) q)))], [1, 2, 69, 70], [1, 2], fun i => L2 L leCl (L Cf.cs y) i, fun i => L2 L yeq (L Cf.cs y) i⟩
 | 6 => zal st 71 fun k => some ⟨Nat, fun j => [(79, .int .i64 (L zav j)), (12, .ref 12 0)],
     fun j => [(12, .box 94 [.int .i64 3, .int .u64 0, .str [], .sl 904 4 0 j]), (904, .row 94 4 j (fun q => yp3 L (L (L zb6 (L Cl.es (L2 L za5 (L Cf.cs y) (L Int.toNat k)))) q)))],
     [1, 2, 3, 4, 11, 69, 70, 71, 77, 78], [1, 2, 3, 4, 11, 903, 905], fun j => L2 L leEp (L Cl.es (L2 L za5 (L Cf.cs y) (L Int.toNat k))) j, fun j => L2 L ywa (L Cl.es (L2 L za5 (L Cf.cs y) (L Int.toNat k))) j⟩
 | _ => none
theorem yaa : zaz Tryz.prog (ya9 std) := by
 intro xs p r h hp
 dsimp only [ya9] at h |-
 split at h <;> cases h
 try simp only [L2, L3, std] at hp |-
 rename_i x
 obtain ⟨ho, hp⟩ := hp
 refine zk2 zbi ho ?_
 have hp : okPl (zah x) := hp
 show za7 _ _ [.agg [.int .u64 (zah x).v, zd3 std (zah x).ls, zcn std (zah x).cs]] (.agg [.int .i64 3, .int .u64 0, .str [], .lst 4 3 (yp5 std (zah x))])
 generalize zah x = y at hp |-
 refine za2 (T := tt) (S := fun L => zao [yac L, yah L, zoh L]) (lo := fun L => rvA L y) (lb := noA) 5 (fn := Tryz.f44) (xs := fun L => [.agg [.int .u64 (L Cf.v y), zd3 L (L Cf.ls y), zcn L (L Cf.cs y)]]) rfl rfl (by kernel_rfl) (by kernel_rfl) rfl zab (za3 ⟨yad, yai, zsi, trivial⟩) (by kernel_rfl) ?_
 intro L P' Q' hL hP hQ
 (cbv; try simp only [syT, true_and, and_true])
 refine ⟨⟨0, ?_⟩, fun i hi => ?_⟩
 · (cbv; try simp only [syT, true_and, and_true])
   (subst hL; subst hQ; simp only [L2, L3, std] at *; try simp only [syS, reduceCtorEq, Int.reduceToNat, Int.reduceAdd, Int.reduceSub] at *)
   exact Nat.zero_le _
 · cbv at hi
   (cbv; try simp only [syT, true_and, and_true])
   have e1 : zad y.ls = y.ls.length := rfl
   have e2 : zad y.cs = y.cs.length := rfl
   refine ⟨fun hlt => ⟨?_, ⟨⟨0, ?_⟩, fun j hj => ?_⟩⟩, fun hge => ⟨⟨0, ?_⟩, fun k hk => ?_⟩⟩
   · (subst hL; subst hQ; simp only [L2, L3, std] at *; try simp only [syS, reduceCtorEq, Int.reduceToNat, Int.reduceAdd, Int.reduceSub] at *)
     omega
   · (cbv; try simp only [syT, true_and, and_true])
     (subst hL; subst hQ; simp only [L2, L3, std] at *; try simp only [syS, reduceCtorEq, Int.reduceToNat, Int.reduceAdd, Int.reduceSub] at *)
     exact Nat.zero_le _
   · cbv at hj
     (cbv; try simp only [syT, true_and, and_true])
     have e3 : ∀ z : Ls, zad z.rs = z.rs.length := fun _ => rfl
     refine ⟨fun hlt2 => ⟨?_, ?_, ⟨j + 1, ?_⟩⟩, fun hge2 => ⟨?_, ?_, ⟨i + 1, ?_⟩⟩⟩
     · (subst hL; subst hQ; simp only [L2, L3, std] at *; try simp only [syS, reduceCtorEq, Int.reduceToNat, Int.reduceAdd, Int.reduceSub] at *)
       omega
     · (subst hL; subst hQ; simp only [L2, L3, std] at *; try simp only [syS, reduceCtorEq, Int.reduceToNat, Int.reduceAdd, Int.reduceSub] at *)
       have e4 := e3 (za4 y.ls i)
       have hm := zo4 hp.1 (i := i) (by omega)
       omega
     · (cbv; try simp only [syT, true_and, and_true])
       (subst hL; subst hQ; simp only [L2, L3, std] at *; try simp only [syS, reduceCtorEq, Int.reduceToNat, Int.reduceAdd, Int.reduceSub] at *)
       have e4 := e3 (za4 y.ls i)
       have hm := zo4 hp.1 (i := i) (by omega)
       refine ⟨fun a b ha hb => ?_, by omega, ?_, ?_⟩
       · by_cases h : a < j
         · rw [zgl h, show a - j = 0 by omega, Nat.zero_mul, Nat.zero_add]
           match b, hb with
           | 0, _ => rfl
           | 1, _ => rfl
           | 2, _ => rfl
           | 3, _ => rfl
         · obtain rfl : a = j := by omega
           rw [zht (by omega), Nat.sub_self, Nat.zero_mul, Nat.zero_add]
           match b, hb with
           | 0, _ => rfl
           | 1, _ => rfl
           | 2, _ => rfl
           | 3, _ => rfl
       · show j + 1 <= (za4 y.ls i).rs.length
         omega
       · show (za4 y.ls i).rs.length - (j + 1) + 1 <= (za4 y.ls i).rs.length - j
         omega
     · (subst hL; subst hQ; simp only [L2, L3, std] at *; try simp only [syS, reduceCtorEq, Int.reduceToNat, Int.reduceAdd, Int.reduceSub] at *)
       exact hp.2.1 _ (by rw [za4, zak (V := lsV) (by omega)]; exact List.getElem_mem _)
     · (subst hL; subst hQ; simp only [L2, L3, std] at *; try simp only [syS, reduceCtorEq, Int.reduceToNat, Int.reduceAdd, Int.reduceSub] at *)
       have hm := hp.1.1
       unfold zfn at hm
       omega
     · (cbv; try simp only [syT, true_and, and_true])
       (subst hL; subst hQ; simp only [L2, L3, std] at *; try simp only [syS, reduceCtorEq, Int.reduceToNat, Int.reduceAdd, Int.reduceSub] at *)
       have e4 := e3 (za4 y.ls i)
       have hj' : j <= (za4 y.ls i).rs.length := hj
       have hm := hp.1.1
       unfold zfn at hm
       refine ⟨fun a b ha hb => ?_, by omega, ?_, ?_⟩
       · by_cases h : a < i
         · rw [zgl h, show a - i = 0 by omega, Nat.zero_mul, Nat.zero_add]
           match b, hb with
           | 0, _ => rfl
           | 1, _ => rfl
           | 2, _ => rfl
           | 3, _ => rfl
         · obtain rfl : a = i := by omega
           rw [zht (by omega), Nat.sub_self, Nat.zero_mul, Nat.zero_add]
           obtain rfl : j = zad (za4 y.ls a).rs := by omega
           match b, hb with
           | 0, _ => rfl
           | 1, _ => rfl
           | 2, _ => rfl
           | 3, _ => rfl
       · show i + 1 <= y.ls.length
         omega
       · show y.ls.length - (i + 1) + 1 <= y.ls.length - i
         omega
   · (cbv; try simp only [syT, true_and, and_true])
     (subst hL; subst hQ; simp only [L2, L3, std] at *; try simp only [syS, reduceCtorEq, Int.reduceToNat, Int.reduceAdd, Int.reduceSub] at *)
     have hi' : i <= y.ls.length := hi
     exact ⟨by omega, by omega, Nat.zero_le _⟩
   · cbv at hk
     (cbv; try simp only [syT, true_and, and_true])
     have e3 : ∀ z : Cl, zad z.es = z.es.length := fun _ => rfl
     refine ⟨fun hlt => ⟨?_, ⟨⟨0, ?_⟩, fun j hj => ?_⟩⟩, fun hge => ?_⟩
     · (subst hL; subst hQ; simp only [L2, L3, std] at *; try simp only [syS, reduceCtorEq, Int.reduceToNat, Int.reduceAdd, Int.reduceSub] at *)
       omega
     · (cbv; try simp only [syT, true_and, and_true])
       (subst hL; subst hQ; simp only [L2, L3, std] at *; try simp only [syS, reduceCtorEq, Int.reduceToNat, Int.reduceAdd, Int.reduceSub] at *)
       exact Nat.zero_le _
     · cbv at hj
       (cbv; try simp only [syT, true_and, and_true])
       refine ⟨fun hlt2 => ⟨?_, ?_, ?_, ⟨j + 1, ?_⟩⟩, fun hge2 => ⟨?_, ⟨k + 1, ?_⟩⟩⟩
       · (subst hL; subst hQ; simp only [L2, L3, std] at *; try simp only [syS, reduceCtorEq, Int.reduceToNat, Int.reduceAdd, Int.reduceSub] at *)
         omega
       · (subst hL; subst hQ; simp only [L2, L3, std] at *; try simp only [syS, reduceCtorEq, Int.reduceToNat, Int.reduceAdd, Int.reduceSub] at *)
         have e4 := e3 (za5 y.cs k)
         exact hp.2.2 (za5 y.cs k) (by rw [za5, zak (V := clV) (by omega)]; exact List.getElem_mem _) (zb6 (za5 y.cs k).es j) (by rw [zb6, zak (V := epV) (by omega)]; exact List.getElem_mem _)
       · (subst hL; subst hQ; simp only [L2, L3, std] at *; try simp only [syS, reduceCtorEq, Int.reduceToNat, Int.reduceAdd, Int.reduceSub] at *)
         have e4 := e3 (za5 y.cs k)
         have hm := zo5 hp.1 (i := k) (by omega)
         omega
       · (cbv; try simp only [syT, true_and, and_true])
         (subst hL; subst hQ; simp only [L2, L3, std] at *; try simp only [syS, reduceCtorEq, Int.reduceToNat, Int.reduceAdd, Int.reduceSub] at *)
         have e4 := e3 (za5 y.cs k)
         have hm := zo5 hp.1 (i := k) (by omega)
         refine ⟨fun a b ha hb => ?_, by omega, ?_, ?_⟩
         · by_cases h : a < j
           · rw [zgl h, show a - j = 0 by omega, Nat.zero_mul, Nat.zero_add]
             match b, hb with
             | 0, _ => rfl
             | 1, _ => rfl
             | 2, _ => rfl
             | 3, _ => rfl
           · obtain rfl : a = j := by omega
             rw [zht (by omega), Nat.sub_self, Nat.zero_mul, Nat.zero_add]
             match b, hb with
             | 0, _ => rfl
             | 1, _ => rfl
             | 2, _ => rfl
             | 3, _ => rfl
         · show j + 1 <= (za5 y.cs k).es.length
           omega
         · show (za5 y.cs k).es.length - (j + 1) + 1 <= (za5 y.cs k).es.length - j
           omega
       · (subst hL; subst hQ; simp only [L2, L3, std] at *; try simp only [syS, reduceCtorEq, Int.reduceToNat, Int.reduceAdd, Int.reduceSub] at *)
         have hm := hp.1.2.1
         unfold zfn at hm
         omega
       · (cbv; try simp only [syT, true_and, and_true])
         (subst hL; subst hQ; simp only [L2, L3, std] at *; try simp only [syS, reduceCtorEq, Int.reduceToNat, Int.reduceAdd, Int.reduceSub] at *)
         have e4 := e3 (za5 y.cs k)
         have hj' : j <= (za5 y.cs k).es.length := hj
         have hm := hp.1.2.1
         unfold zfn at hm
         refine ⟨fun a b ha hb => ?_, by omega, ?_, ?_⟩
         · by_cases h : a < k
           · rw [zgl h, show a - k = 0 by omega, Nat.zero_mul, Nat.zero_add]
             match b, hb with
             | 0, _ => rfl
             | 1, _ => rfl
             | 2, _ => rfl
             | 3, _ => rfl
           · obtain rfl : a = k := by omega
             rw [zht (by omega), Nat.sub_self, Nat.zero_mul, Nat.zero_add]
             obtain rfl : j = zad (za5 y.cs a).es := by omega
             match b, hb with
             | 0, _ => rfl
             | 1, _ => rfl
             | 2, _ => rfl
             | 3, _ => rfl
         · show k + 1 <= y.cs.length
           omega
         · show y.cs.length - (k + 1) + 1 <= y.cs.length - k
           omega
     · (subst hL; subst hQ; simp only [L2, L3, std] at *; try simp only [syS, reduceCtorEq, Int.reduceToNat, Int.reduceAdd, Int.reduceSub] at *)
       have hk' : k <= y.cs.length := hk
       obtain rfl : k = zad y.cs := by omega
       exact fun _ _ _ _ => rfl
theorem zof {n : Nat} {get : Nat -> Nat -> AV} {l : List CV} (hn : n = l.length) (h : ∀ i, i < n -> get i 0 = .int .i64 (zdo l i).kd /\ get i 1 = .int .u64 (zdo l i).nn /\ get i 2 = .str (zdo l i).tx /\ rdL (get i 3) = (zdo l i).ls /\ okL (get i 3)) :
   rdL (.lst 4 n get) = l /\ okL (.lst 4 n get) := by
 refine ⟨yde (by rw [zih]; exact hn) fun i hi => ?_, rfl, fun i hi => ?_⟩
 · rw [zih] at hi
   obtain ⟨a, b, c, d, _⟩ := h i hi
   rw [zq5 hi, a, b, c, d]
   exact CV.eta _
 · obtain ⟨a, b, c, d, e⟩ := h i hi
   exact ⟨⟨_, a⟩, ⟨_, b⟩, ⟨_, c⟩, e⟩
theorem yqs (y : Rt) : rdL (yp2 std y 3) = (zgo y).ls /\ okL (yp2 std y 3) := by
 refine zof (l := [zh9 y.h, zh9 y.p, zh9 y.c, zgd y.i]) rfl fun i hi => ?_
 match i, hi with
 | 0, _ => exact ⟨rfl, rfl, rfl, rfl, trivial⟩
 | 1, _ => exact ⟨rfl, rfl, rfl, rfl, trivial⟩
 | 2, _ => exact ⟨rfl, rfl, rfl, rfl, trivial⟩
 | 3, _ => exact ⟨rfl, rfl, rfl, rfl, trivial⟩
theorem yqu (y : Ep) : rdL (yp3 std y 3) = (zh2 y).ls /\ okL (yp3 std y 3) := by
 refine zof (l := [zh9 (plB y.pl), zgd (y.w % 18446744073709551616)]) rfl fun i hi => ?_
 match i, hi with
 | 0, _ => exact ⟨rfl, rfl, rfl, rfl, trivial⟩
 | 1, _ => exact ⟨rfl, rfl, rfl, rfl, trivial⟩
theorem yj2 (l : List Rt) : rdL (.lst 4 (zad l) (fun q => yp2 std (zb5 l q))) = l.map zgo /\ okL (.lst 4 (zad l) (fun q => yp2 std (zb5 l q))) := by
 refine zof (by simp [zad]) fun i hi => ?_
 rw [zin (V := rtV) zgo (show i < l.length from hi)]
 exact ⟨rfl, rfl, rfl, (yqs _).1, (yqs _).2⟩
theorem yj5 (l : List Ep) : rdL (.lst 4 (zad l) (fun q => yp3 std (zb6 l q))) = l.map zh2 /\ okL (.lst 4 (zad l) (fun q => yp3 std (zb6 l q))) := by
 refine zof (by simp [zad]) fun i hi => ?_
 rw [zin (V := epV) zh2 (show i < l.length from hi)]
 exact ⟨rfl, rfl, rfl, (yqu _).1, (yqu _).2⟩
theorem yqt (y : Ls) : rdL (yl9 std y 3) = (zhp y).ls /\ okL (yl9 std y 3) := by
 refine zof (l := [zh9 y.n, zh9 (plB y.pl), zq3 y.rs]) rfl fun i hi => ?_
 match i, hi with
 | 0, _ => exact ⟨rfl, rfl, rfl, rfl, trivial⟩
 | 1, _ => exact ⟨rfl, rfl, rfl, rfl, trivial⟩
 | 2, _ => exact ⟨rfl, rfl, rfl, (yj2 _).1, (yj2 _).2⟩
theorem yqv (y : Cl) : rdL (yp4 std y 3) = (zhr y).ls /\ okL (yp4 std y 3) := by
 refine zof (l := [zh9 y.n, zr7 y.es]) rfl fun i hi => ?_
 match i, hi with
 | 0, _ => exact ⟨rfl, rfl, rfl, rfl, trivial⟩
 | 1, _ => exact ⟨rfl, rfl, rfl, (yj5 _).1, (yj5 _).2⟩
theorem yj4 (l : List Ls) : rdL (.lst 4 (zad l) (fun q => yl9 std (za4 l q))) = l.map zhp /\ okL (.lst 4 (zad l) (fun q => yl9 std (za4 l q))) := by
 refine zof (by simp [zad]) fun i hi => ?_
 rw [zin (V := lsV) zhp (show i < l.length from hi)]
 exact ⟨rfl, rfl, rfl, (yqt _).1, (yqt _).2⟩
theorem yj6 (l : List Cl) : rdL (.lst 4 (zad l) (fun q => yp4 std (za5 l q))) = l.map zhr /\ okL (.lst 4 (zad l) (fun q => yp4 std (za5 l q))) := by
 refine zof (by simp [zad]) fun i hi => ?_
 rw [zin (V := clV) zhr (show i < l.length from hi)]
 exact ⟨rfl, rfl, rfl, (yqv _).1, (yqv _).2⟩
theorem yqw (y : Cf) : rdL (.lst 4 3 (yp5 std y)) = (zhs y).ls /\ okL (.lst 4 3 (yp5 std y)) := by
 refine zof (l := [zgd y.v, zvc y.ls, zvw y.cs]) rfl fun i hi => ?_
 match i, hi with
 | 0, _ => exact ⟨rfl, rfl, rfl, rfl, trivial⟩
 | 1, _ => exact ⟨rfl, rfl, rfl, (yj4 _).1, (yj4 _).2⟩
 | 2, _ => exact ⟨rfl, rfl, rfl, (yj6 _).1, (yj6 _).2⟩
def ywg (x : Ls) : Bool := !zfk x
def ywh (x : Cl) : Bool := !zgk x
def upE (x : Ep) : Bool := !zpr x
def upC (x : Cl) : Bool := !zpm x
theorem zgc {α : Type} (p : α -> Bool) : ∀ l : List α, l.any p = !(l.all fun x => !p x)
 | [] => rfl
 | a :: l => by rw [List.any_cons, List.all_cons, zgc p l]; cases p a <;> simp
def ywe (l : List Ls) (i : Nat) : Prop := zmc lsV ywg l i
def ywf (l : List Cl) (i : Nat) : Prop := zmc clV ywh l i
def upTE (l : List Ep) (i : Nat) : Prop := zmc epV upE l i
def upTC (l : List Cl) (i : Nat) : Prop := zmc clV upC l i
def rmA (L : zaa) (y : Cf) : Nat -> St -> Option Ann := fun id st => match id with
 | 0 => some ⟨Nat, fun i => [(20, .int .i64 (L zav i))], fun i => [], [1, 18, 19], [1], fun i => L2 L ywe (L Cf.ls y) i, fun i => L2 L yna (L Cf.ls y) i⟩
 | 2 => some ⟨Nat, fun i => [(32, .int .i64 (L zav i))], fun i => [], [30, 31], [], fun i => L2 L ywf (L Cf.cs y) i, fun i => L2 L yeq (L Cf.cs y) i⟩
 | _ => none
theorem yma {x : Cf} (h : x.ls.all ywg = false) : zgj x = true := by
 unfold zgj
 rw [zgc zfk, show (x.ls.all fun a => !zfk a) = false from h]; simp
theorem ym9 {x : Cf} (h : x.cs.all ywh = false) : zgj x = true := by
 unfold zgj
 rw [zgc zgk, show (x.cs.all fun a => !zgk a) = false from h]; simp
theorem ymb {x : Cf} (h0 : ¬ (8 < x.ls.length \/ 8 < x.cs.length)) (h : x.ls.all ywg = true) (h2 : x.cs.all ywh = true) : zgj x = false := by
 unfold zgj
 rw [zgc zgk, zgc zfk, show (x.cs.all fun a => !zgk a) = true from h2, show (x.ls.all fun a => !zfk a) = true from h, decide_eq_false h0]; rfl
theorem zx3 : zaz Tryz.prog (prS 101 zd2 zah zgj zxf std) := by
 intro xs p r h hp
 dsimp only [prS] at h |-
 split at h <;> cases h
 try simp only [L2, L3, std] at hp |-
 rename_i x
 refine zk2 zbi hp.1 ?_
 have hp := hp.2
 show za7 _ _ _ (.bool (zgj (rdG cfV x)))
 have hp : zxf (rdG cfV x) := hp
 generalize rdG cfV x = y at hp |-
 refine za2 (T := tt) (S := noS) (lo := fun L => rmA L y) (lb := noA) 5 (fn := Tryz.f101) (xs := fun L => [.agg [.int .u64 (L Cf.v y), zd3 L (L Cf.ls y), zcn L (L Cf.cs y)]]) rfl rfl (by kernel_rfl) (by kernel_rfl) rfl zab (zbh _) (by kernel_rfl) ?_
 intro L P' Q' hL hP hQ
 (cbv; try simp only [syT, true_and, and_true])
 have e1 : zad y.ls = y.ls.length := rfl
 have e2 : zad y.cs = y.cs.length := rfl
 refine ⟨fun h => ?_, fun h => ⟨fun h2 => ?_, fun h2 => ⟨⟨0, ?_⟩, fun i hi => ?_⟩⟩⟩
 · (subst hL; subst hQ; simp only [L2, L3, std] at *; try simp only [syS, reduceCtorEq, Int.reduceToNat, Int.reduceAdd, Int.reduceSub] at *)
   unfold zgj
   rw [decide_eq_true (by omega)]; rfl
 · (subst hL; subst hQ; simp only [L2, L3, std] at *; try simp only [syS, reduceCtorEq, Int.reduceToNat, Int.reduceAdd, Int.reduceSub] at *)
   unfold zgj
   rw [decide_eq_true (by omega)]; rfl
 · (cbv; try simp only [syT, true_and, and_true])
   (subst hL; subst hQ; simp only [L2, L3, std] at *; try simp only [syS, reduceCtorEq, Int.reduceToNat, Int.reduceAdd, Int.reduceSub] at *)
   exact zi8 _ _ _
 · cbv at hi
   (cbv; try simp only [syT, true_and, and_true])
   refine ⟨fun hlt => ⟨?_, fun h1 => ?_, fun h1 => ⟨i + 1, ?_⟩⟩, fun hge => ⟨⟨0, ?_⟩, fun k hk => ?_⟩⟩
   · (subst hL; subst hQ; simp only [L2, L3, std] at *; try simp only [syS, reduceCtorEq, Int.reduceToNat, Int.reduceAdd, Int.reduceSub] at *)
     omega
   · (subst hL; subst hQ; simp only [L2, L3, std] at *; try simp only [syS, reduceCtorEq, Int.reduceToNat, Int.reduceAdd, Int.reduceSub] at *)
     refine (yma (zdn (V := lsV) (i := i) (by omega) ?_)).symm
     show (!decide (8 < (za4 y.ls i).rs.length)) = false
     rw [decide_eq_true (show 8 < (za4 y.ls i).rs.length by have : zad (za4 y.ls i).rs = (za4 y.ls i).rs.length := rfl; omega)]; rfl
   · (cbv; try simp only [syT, true_and, and_true])
     (subst hL; subst hQ; simp only [L2, L3, std] at *; try simp only [syS, reduceCtorEq, Int.reduceToNat, Int.reduceAdd, Int.reduceSub] at *)
     refine ⟨by omega, zdk hi (by omega) ?_, ?_⟩
     · show (!decide (8 < (za4 y.ls i).rs.length)) = true
       rw [decide_eq_false (show ¬ 8 < (za4 y.ls i).rs.length by have : zad (za4 y.ls i).rs = (za4 y.ls i).rs.length := rfl; omega)]; rfl
     · show y.ls.length - (i + 1) < y.ls.length - i
       omega
   · (cbv; try simp only [syT, true_and, and_true])
     (subst hL; subst hQ; simp only [L2, L3, std] at *; try simp only [syS, reduceCtorEq, Int.reduceToNat, Int.reduceAdd, Int.reduceSub] at *)
     exact zi8 _ _ _
   · cbv at hk
     (cbv; try simp only [syT, true_and, and_true])
     refine ⟨fun hlt => ⟨?_, fun h1 => ?_, fun h1 => ⟨k + 1, ?_⟩⟩, fun hge2 => ?_⟩
     · (subst hL; subst hQ; simp only [L2, L3, std] at *; try simp only [syS, reduceCtorEq, Int.reduceToNat, Int.reduceAdd, Int.reduceSub] at *)
       omega
     · (subst hL; subst hQ; simp only [L2, L3, std] at *; try simp only [syS, reduceCtorEq, Int.reduceToNat, Int.reduceAdd, Int.reduceSub] at *)
       refine (ym9 (zdn (V := clV) (i := k) (by omega) ?_)).symm
       show (!decide (8 < (za5 y.cs k).es.length)) = false
       rw [decide_eq_true (show 8 < (za5 y.cs k).es.length by have : zad (za5 y.cs k).es = (za5 y.cs k).es.length := rfl; omega)]; rfl
     · (cbv; try simp only [syT, true_and, and_true])
       (subst hL; subst hQ; simp only [L2, L3, std] at *; try simp only [syS, reduceCtorEq, Int.reduceToNat, Int.reduceAdd, Int.reduceSub] at *)
       refine ⟨by omega, zdk hk (by omega) ?_, ?_⟩
       · show (!decide (8 < (za5 y.cs k).es.length)) = true
         rw [decide_eq_false (show ¬ 8 < (za5 y.cs k).es.length by have : zad (za5 y.cs k).es = (za5 y.cs k).es.length := rfl; omega)]; rfl
       · show y.cs.length - (k + 1) < y.cs.length - k
         omega
     · (subst hL; subst hQ; simp only [L2, L3, std] at *; try simp only [syS, reduceCtorEq, Int.reduceToNat, Int.reduceAdd, Int.reduceSub] at *)
       exact (ymb (by omega) (zei hi (by omega)) (zei hk (by omega))).symm
def rbA (L : zaa) (y : Cf) : Nat -> St -> Option Ann := fun id st => match id with
 | 0 => some ⟨Nat, fun i => [(13, .int .i64 (L zav i))], fun i => [], [1, 11, 12], [1], fun i => L2 L upTC (L Cf.cs y) i, fun i => L2 L yeq (L Cf.cs y) i⟩
 | 2 => zal st 13 fun k => some ⟨Nat, fun j => [(20, .int .i64 (L zav j))], fun j => [], [1, 11, 12, 13, 18, 19], [1], fun j => L2 L upTE (L Cl.es (L2 L za5 (L Cf.cs y) (L Int.toNat k))) j, fun j => L2 L ywa (L Cl.es (L2 L za5 (L Cf.cs y) (L Int.toNat k))) j⟩
 | _ => none
theorem ytg {x : Cf} (h : x.cs.all upC = false) : yeu x = true := by
 unfold yeu
 rw [zgc zpm, show (x.cs.all fun a => !zpm a) = false from h]; rfl
theorem yth {x : Cf} (h : x.cs.all upC = true) : yeu x = false := by
 unfold yeu
 rw [zgc zpm, show (x.cs.all fun a => !zpm a) = true from h]; rfl
theorem yuq {x : Cl} (h : x.es.all upE = false) : upC x = false := by
 unfold upC zpm
 rw [zgc zpr, show (x.es.all fun a => !zpr a) = false from h]; rfl
theorem yur {x : Cl} (h : x.es.all upE = true) : upC x = true := by
 unfold upC zpm
 rw [zgc zpr, show (x.es.all fun a => !zpr a) = true from h]; rfl
def yb0 (L : zaa) : zbg := (53, fun xs => match xs with
 | [x] => some (L zd2 x /\ L zf0 (L zah x), .tup [.str (L cfT (L zah x)), .int .i64 (L cfE (L zah x))])
 | _ => none)
theorem yb1 : zaz Tryz.prog (yb0 std) := by
 intro xs p r h hp
 dsimp only [yb0] at h |-
 split at h <;> cases h
 try simp only [L2, L3, std] at hp |-
 rename_i x
 refine zk2 zbi hp.1 ?_
 have hp := hp.2
 show za7 _ _ _ (.tup [.str (cfT (rdG cfV x)), .int .i64 (cfE (rdG cfV x))])
 have hp : zf0 (rdG cfV x) := hp
 generalize rdG cfV x = y at hp |-
 refine za2 (T := tt) (S := fun L => zao [prS 101 zd2 zah zgj zxf L, ya9 L, zs9 7000 L]) (lo := fun L => rbA L y) (lb := noA) 5 (fn := Tryz.f53) (xs := fun L => [.agg [.int .u64 (L Cf.v y), zd3 L (L Cf.ls y), zcn L (L Cf.cs y)]]) rfl rfl (by kernel_rfl) (by kernel_rfl) rfl zab (za3 ⟨zx3, yaa, zwx _, trivial⟩) (by kernel_rfl) ?_
 intro L P' Q' hL hP hQ
 have hG : L zah (.agg [.int .u64 (L Cf.v y), .lst 7 (L zad (L Cf.ls y)) (fun i => lsC L (L (L za4 (L Cf.ls y)) i)), .lst 2 (L zad (L Cf.cs y)) (fun i => clC L (L (L za5 (L Cf.cs y)) i))]) = y := by subst hL; exact (gK zbi y _ rfl).2
 have hO : L zd2 (.agg [.int .u64 (L Cf.v y), .lst 7 (L zad (L Cf.ls y)) (fun i => lsC L (L (L za4 (L Cf.ls y)) i)), .lst 2 (L zad (L Cf.cs y)) (fun i => clC L (L (L za5 (L Cf.cs y)) i))]) := by subst hL; exact (gK zbi y _ rfl).1
 (cbv; try simp only [syT, true_and, and_true])
 simp only [hG, hO, true_and]
 have e2 : zad y.cs = y.cs.length := rfl
 have e3 : ∀ z : Cl, zad z.es = z.es.length := fun _ => rfl
 obtain ⟨hl, hw⟩ := hp
 have hl' := hl
 simp only [zbm, Bool.and_eq_true, decide_eq_true_eq, List.all_eq_true, zdb, zdv] at hl'
 obtain ⟨⟨⟨l1, l2⟩, l3⟩, l4⟩ := hl'
 refine ⟨?_, fun h => ?_, fun h => ⟨⟨0, ?_⟩, fun k hk => ?_⟩⟩
 · (subst hL; subst hQ; simp only [L2, L3, std] at *; try simp only [syS, reduceCtorEq, Int.reduceToNat, Int.reduceAdd, Int.reduceSub] at *)
   trivial
 · (subst hL; subst hQ; simp only [L2, L3, std] at *; try simp only [syS, reduceCtorEq, Int.reduceToNat, Int.reduceAdd, Int.reduceSub] at *)
   have e : cfE y = 6 := by unfold cfE; rw [if_pos h]
   exact ⟨by rw [cfT, if_neg (by rw [e]; decide)], e.symm⟩
 · (cbv; try simp only [syT, true_and, and_true])
   (subst hL; subst hQ; simp only [L2, L3, std] at *; try simp only [syS, reduceCtorEq, Int.reduceToNat, Int.reduceAdd, Int.reduceSub] at *)
   exact zi8 _ _ _
 · cbv at hk
   (cbv; try simp only [syT, true_and, and_true])
   try simp only [hG, hO, true_and]
   refine ⟨fun hlt => ⟨?_, ⟨⟨0, ?_⟩, fun j hj => ?_⟩⟩, fun hge => ?_⟩
   · (subst hL; subst hQ; simp only [L2, L3, std] at *; try simp only [syS, reduceCtorEq, Int.reduceToNat, Int.reduceAdd, Int.reduceSub] at *)
     omega
   · (cbv; try simp only [syT, true_and, and_true])
     (subst hL; subst hQ; simp only [L2, L3, std] at *; try simp only [syS, reduceCtorEq, Int.reduceToNat, Int.reduceAdd, Int.reduceSub] at *)
     exact zi8 _ _ _
   · cbv at hj
     (cbv; try simp only [syT, true_and, and_true])
     refine ⟨fun hlt2 => ⟨?_, fun h3 => ?_, fun h3 => ⟨j + 1, ?_⟩⟩, fun hge2 => ⟨k + 1, ?_⟩⟩
     · (subst hL; subst hQ; simp only [L2, L3, std] at *; try simp only [syS, reduceCtorEq, Int.reduceToNat, Int.reduceAdd, Int.reduceSub] at *)
       omega
     · (subst hL; subst hQ; simp only [L2, L3, std] at *; try simp only [syS, reduceCtorEq, Int.reduceToNat, Int.reduceAdd, Int.reduceSub] at *)
       have e4 := e3 (za5 y.cs k)
       have b1 : yeu y = true := ytg (zdn (V := clV) (i := k) (by omega) (yuq (zdn (V := epV) (i := j) (by show j < (za5 y.cs k).es.length; omega) (by
         show (!decide ((zb6 (za5 y.cs k).es j).w < 0)) = false
         rw [decide_eq_true h3]; rfl))))
       have e : cfE y = 7 := by unfold cfE; rw [if_neg (by rw [h]; decide), if_pos b1]
       exact ⟨by rw [cfT, if_neg (by rw [e]; decide)], e.symm⟩
     · (cbv; try simp only [syT, true_and, and_true])
       (subst hL; subst hQ; simp only [L2, L3, std] at *; try simp only [syS, reduceCtorEq, Int.reduceToNat, Int.reduceAdd, Int.reduceSub] at *)
       have e4 := e3 (za5 y.cs k)
       have hm := (l4 _ (show za5 y.cs k ∈ y.cs by rw [za5, zak (V := clV) (by omega)]; exact List.getElem_mem _)).2
       refine ⟨by omega, zdk hj (by omega) ?_, ?_⟩
       · show (!decide ((zb6 (za5 y.cs k).es j).w < 0)) = true
         rw [decide_eq_false (by omega)]; rfl
       · show (za5 y.cs k).es.length - (j + 1) + 1 <= (za5 y.cs k).es.length - j
         omega
     · (cbv; try simp only [syT, true_and, and_true])
       (subst hL; subst hQ; simp only [L2, L3, std] at *; try simp only [syS, reduceCtorEq, Int.reduceToNat, Int.reduceAdd, Int.reduceSub] at *)
       have e4 := e3 (za5 y.cs k)
       refine ⟨by omega, zdk hk (by omega) (yur (zei hj (by show (za5 y.cs k).es.length <= j; omega))), ?_⟩
       show y.cs.length - (k + 1) + 1 <= y.cs.length - k
       omega
   · (subst hL; subst hQ; simp only [L2, L3, std] at *; try simp only [syS, reduceCtorEq, Int.reduceToNat, Int.reduceAdd, Int.reduceSub] at *)
     have hb : yeu y = false := yth (zei hk (by omega))
     have hf := yjk hl hw
     have hV : mkV std 3 0 [] (.lst 4 3 (yp5 std y)) = zhs y := congrArg (CV.mk 3 0 []) (yqw y).1
     have hV' : CV.mk 3 0 [] (rdL (.lst 4 3 (yp5 std y))) = zhs y := hV
     rw [hV, hV']
     have sz1 : ∀ {α : Type} {l : List α} (n : Nat), n <= 12 -> l.length <= n -> zfn l := fun n hn hl => by show _ <= 1000000; omega
     have e : cfE y = zlc (zhs y) := by unfold cfE; rw [if_neg (by rw [h]; decide), if_neg (by rw [hb]; decide)]
     refine ⟨⟨⟨sz1 12 (by omega) l1, sz1 12 (by omega) l2, fun x hx => sz1 12 (by omega) (l3 x hx).1.2, fun c hc => sz1 12 (by omega) (l4 c hc).2⟩, fun x hx => (hw.2.1 x hx).1, fun c hc e he => (hw.2.2 c hc e he).1⟩, ⟨(yqw y).2, ⟨hf.sz, by omega⟩, hf.wf, ?_⟩, ?_, e.symm⟩
     · have := hf.tx
       omega
     · unfold cfT
       rw [e]
       split
       · rfl
       · rename_i h3
         unfold zoj; rw [if_neg h3]
def yer {α : Type} (d : α) (nm : α -> List UInt8) (s : List UInt8) : List α -> α × Bool
 | [] => (d, false)
 | a :: l => if nm a = s then (a, true) else yer d nm s l
theorem zvm {α : Type} {d : α} {nm : α -> List UInt8} {s : List UInt8} : ∀ l : List α, (yer d nm s l).2 = l.any (fun a => decide (nm a = s))
 | [] => rfl
 | a :: l => by
   rw [yer, List.any_cons]
   split
   · rename_i h; simp [h]
   · rename_i h; rw [zvm l]; simp [h]
def ypb (l : List Cl) (s : List UInt8) : Cl := (yer ⟨[], []⟩ Cl.n s l).1
def zth (l : List Cl) (s : List UInt8) : Bool := (yer ⟨[], []⟩ Cl.n s l).2
def ysd (l : List Cl) (s : List UInt8) (i : Nat) : Prop := i <= l.length /\ yer ⟨[], []⟩ Cl.n s l = yer ⟨[], []⟩ Cl.n s (l.drop i)
theorem ycq {l : List Cl} {s : List UInt8} {i : Nat} (h : i < l.length) : yer ⟨[], []⟩ Cl.n s (l.drop i) = if (za5 l i).n = s then (za5 l i, true) else yer ⟨[], []⟩ Cl.n s (l.drop (i + 1)) := by
 rw [List.drop_eq_getElem_cons h, yer, za5, zak (V := clV) h]
def cluA (L : zaa) (y : Cf) (s : List UInt8) : Nat -> St -> Option Ann := fun id st => match id with
 | 0 => some ⟨Nat, fun i => [(11, .int .i64 (L zav i))], fun i => [], [1, 4, 5, 9, 10], [4], fun i => L3 L ysd (L Cf.cs y) s i, fun i => L2 L yeq (L Cf.cs y) i⟩
 | _ => none
def yo1 (L : zaa) : zbg := (11, fun xs => match xs with
 | [x, .str s] => some (L zd2 x /\ L zmp (L zah x), .tup [.agg [.str (L Cl.n (L2 L ypb (L Cf.cs (L zah x)) s)), zho L (L Cl.es (L2 L ypb (L Cf.cs (L zah x)) s))], .bool (L2 L zth (L Cf.cs (L zah x)) s)])
 | _ => none)
theorem yi5 : zaz Tryz.prog (yo1 std) := by
 intro xs p r h hp
 dsimp only [yo1] at h |-
 split at h <;> cases h
 try simp only [L2, L3, std] at hp |-
 rename_i x s
 obtain ⟨ho, hp⟩ := hp
 refine zk2 zbi ho ?_
 have hp : zmp (zah x) := hp
 show za7 _ _ [.agg [.int .u64 (zah x).v, zd3 std (zah x).ls, zcn std (zah x).cs], .str s] (.tup [.agg [.str (ypb (zah x).cs s).n, zho std (ypb (zah x).cs s).es], .bool (zth (zah x).cs s)])
 generalize zah x = y at hp |-
 have hz : y.cs.length <= 1000000 := hp.2.1
 refine za2 (T := tt) (S := noS) (lo := fun L => cluA L y s) (lb := noA) 5 (fn := Tryz.f11) (xs := fun L => [.agg [.int .u64 (L Cf.v y), zd3 L (L Cf.ls y), zcn L (L Cf.cs y)], .str s]) rfl rfl (by kernel_rfl) (by kernel_rfl) rfl zab (zbh _) (by kernel_rfl) ?_
 intro L P' Q' hL hP hQ
 (cbv; try simp only [syT, true_and, and_true])
 have e2 : zad y.cs = y.cs.length := rfl
 refine ⟨⟨0, ?_⟩, fun i hi => ?_⟩
 · (cbv; try simp only [syT, true_and, and_true])
   (subst hL; subst hQ; simp only [L2, L3, std] at *; try simp only [syS, reduceCtorEq, Int.reduceToNat, Int.reduceAdd, Int.reduceSub] at *)
   exact ⟨Nat.zero_le _, rfl⟩
 · cbv at hi
   (cbv; try simp only [syT, true_and, and_true])
   repeat' first | refine And.intro ?_ ?_ | refine fun (hh : (_ : Bool) = _) => ?_
   all_goals try (refine ⟨i + 1, ?_⟩; (cbv; try simp only [syT, true_and, and_true]))
   all_goals (subst hL; subst hQ; simp only [L2, L3, std] at *; try simp only [syS, reduceCtorEq, Int.reduceToNat, Int.reduceAdd, Int.reduceSub] at *)
   · exact ⟨by omega, by omega⟩
   · have q := hi.2
     rw [ycq (by omega), if_pos (by assumption)] at q
     rw [show ypb y.cs s = za5 y.cs i from congrArg Prod.fst q, show zth y.cs s = true from congrArg Prod.snd q]
     unfold zho
     rw [ze5, zcs]
     exact ⟨⟨rfl, ⟨rfl, fun _ _ _ _ => rfl⟩, trivial⟩, rfl⟩
   · have q := hi.2
     rw [ycq (by omega), if_neg (by assumption)] at q
     refine ⟨by omega, ⟨by omega, q⟩, ?_⟩
     show y.cs.length - (i + 1) + 1 <= y.cs.length - i
     omega
   · have q := hi.2
     rw [List.drop_eq_nil_of_le (by omega)] at q
     rw [show ypb y.cs s = ⟨[], []⟩ from congrArg Prod.fst q, show zth y.cs s = false from congrArg Prod.snd q]
     unfold zho
     rw [zhj, zcs]
     exact ⟨⟨rfl, rfl, trivial⟩, rfl⟩
def upM (n : Nat) : Prop := n <= 1000000
def toM {α : Type} (l : List α) (i : Nat) : Nat := l.length - i
def mkRt (L : zaa) (h p c : List UInt8) (i : Int) : Rt := L (L (L (L Rt.mk h) p) c) i
def mkEp (L : zaa) (a b c d q w : Int) : Ep := L (L Ep.mk (zlm L a b c d q)) w
def rtP (r x : Rt) : Bool := decide (zhq x.h = zhq r.h) && decide (x.p = r.p)
def rt2 (r x : Rt) : Prop := r.h.length <= 1000000 /\ x.h.length <= 1000000
def epP (r x : Ep) : Bool := decide (x.pl = r.pl)
def ep2 (r x : Ep) : Prop := True
def yqb (r : Rt) (l : List Rt) : Int := zmh (rtP r) l
def ysr (r : Ep) (l : List Ep) : Int := zmh (epP r) l
def zmk (r : Rt) (l : List Rt) : Bool := l.any (rtP r)
def zr8 (r : Ep) (l : List Ep) : Bool := l.any (epP r)
def rt2L (r : Rt) (l : List Rt) : Prop := ∀ x ∈ l, rt2 r x
def ywj (r : Ep) (l : List Ep) : Prop := ∀ x ∈ l, ep2 r x
def rtNo (r : Rt) (l : List Rt) (i : Nat) : Prop := zli (rtP r) l i
def epNo (r : Ep) (l : List Ep) (i : Nat) : Prop := zli (epP r) l i
def yud {α : Type} (f ty : Nat) (mk : List AV -> Option α) (p : α -> α -> Bool) (pre : α -> α -> Prop) (L : zaa) : zmi := (f, fun raw ob => match raw with
 | [.agg xs, .ref k 0] => match mk xs, ob k with
   | some x, some (.box _ ys) => match mk ys with
     | some r => some ⟨[.agg xs, .ref 500000 0], [(500000, .box ty ys)], L2 L pre r x, .bool (L2 L p r x), [(500000, .box ty ys)]⟩
     | none => none
   | _, _ => none
 | _ => none)
def yu9 {α : Type} (f g ty sz : Nat) (mk : List AV -> Option α) (ok : AV -> Prop) (rd : AV -> List α) (p : α -> List α -> Int) (pre : α -> List α -> Prop) (L : zaa) : zmi := (f, fun raw ob => match raw with
 | [.lst s n get, .fn k [] [.ref q 0]] => match zaq k g, zaq s sz, ob q with
   | true, true, some (.box _ ys) => match mk ys with
     | some r => some ⟨[.lst sz n get, .fn g [] [.ref 500000 0]], [(500000, .box ty ys)], L ok (.lst sz n get) /\ L upM n /\ L2 L pre r (L rd (.lst sz n get)), .int .i64 (L2 L p r (L rd (.lst sz n get))), [(500000, .box ty ys)]⟩
     | none => none
   | _, _, _ => none
 | _ => none)
def yuf {α : Type} (f g ty sz : Nat) (mk : List AV -> Option α) (ok : AV -> Prop) (rd : AV -> List α) (p : α -> List α -> Bool) (pre : α -> List α -> Prop) (L : zaa) : zmi := (f, fun raw ob => match raw with
 | [.lst s n get, .fn k [] [.ref q 0]] => match zaq k g, zaq s sz, ob q with
   | true, true, some (.box _ ys) => match mk ys with
     | some r => some ⟨[.lst sz n get, .fn g [] [.ref 500000 0]], [(500000, .box ty ys)], L ok (.lst sz n get) /\ L upM n /\ L2 L pre r (L rd (.lst sz n get)), .bool (L2 L p r (L rd (.lst sz n get))), [(500000, .box ty ys)]⟩
     | none => none
   | _, _, _ => none
 | _ => none)
def yq9 (L : zaa) : List AV -> Option Rt
 | [.str h, .str p, .str c, .int .u64 d] => some (mkRt L h p c d)
 | _ => none
def yaf (L : zaa) (y : Rt) : List AV := [.str (L Rt.h y), .str (L Rt.p y), .str (L Rt.c y), .int .u64 (L Rt.i y)]
def ysp (L : zaa) : List AV -> Option Ep
 | [.int .u8 a, .int .u8 b, .int .u8 c, .int .u8 d, .int .u16 q, .int .i64 w] => some (mkEp L a b c d q w)
 | _ => none
def yd9 (L : zaa) (y : Ep) : List AV := [.int .u8 (L Pl.a (L Ep.pl y)), .int .u8 (L Pl.b (L Ep.pl y)), .int .u8 (L Pl.c (L Ep.pl y)), .int .u8 (L Pl.d (L Ep.pl y)), .int .u16 (L Pl.p (L Ep.pl y)), .int .i64 (L Ep.w y)]
theorem zs7 {xs : List AV} {y : Rt} (h : yq9 std xs = some y) : xs = yaf std y := by
 unfold yq9 at h
 split at h <;> cases h
 rfl
theorem ztn {xs : List AV} {y : Ep} (h : ysp std xs = some y) : xs = yd9 std y := by
 unfold ysp at h
 split at h <;> cases h
 rfl
theorem ydm {α : Type} {f ty : Nat} {mk : List AV -> Option α} {cs : α -> List AV} {p : α -> α -> Bool} {pre : α -> α -> Prop} {P : Program} (hm : ∀ xs y, mk xs = some y -> xs = cs y)
   (h : ∀ r x, pre r x -> zc5 P f [.agg (cs x), .ref 500000 0] [(500000, .box ty (cs r))] (.bool (p r x)) [(500000, .box ty (cs r))]) : zfu P (yud f ty mk p pre std) := by
 intro raw ob T hT hp
 unfold yud at hT
 simp only at hT
 split at hT
 rotate_left
 · cases hT
 split at hT
 rotate_left
 · cases hT
 rename_i h1 h2
 split at hT
 rotate_left
 · cases hT
 rename_i h3
 cases hT
 obtain rfl := hm _ _ h1
 obtain rfl := hm _ _ h3
 exact h _ _ hp
theorem ycj {α : Type} {V : Vw α} (K : znu V) {f g ty : Nat} {mk : List AV -> Option α} {cs : α -> List AV} {ok : AV -> Prop} {rd : AV -> List α} {p : α -> List α -> Int} {pre : α -> List α -> Prop} {P : Program} (e1 : ok = okW V) (e2 : rd = rdW V) (hm : ∀ xs y, mk xs = some y -> xs = cs y)
   (h : ∀ r l, l.length <= 1000000 -> pre r l -> zc5 P f [zvb std V l, .fn g [] [.ref 500000 0]] [(500000, .box ty (cs r))] (.int .i64 (p r l)) [(500000, .box ty (cs r))]) : zfu P (yu9 f g ty V.sz mk ok rd p pre std) := by
 intro raw ob T hT hp
 unfold yu9 at hT
 simp only at hT
 split at hT
 rotate_left
 · cases hT
 rename_i s n get k q
 split at hT
 rotate_left
 · cases hT
 split at hT
 rotate_left
 · cases hT
 rename_i r hr
 cases hT
 obtain rfl := hm _ _ hr
 subst e1; subst e2
 obtain ⟨ho, hn, hq⟩ := hp
 have ho : okW V (.lst V.sz n get) := ho
 refine zow (fun h D μ vs hr => ylg (fun v => zop K ho) hr) ?_
 have hl : (rdW V (.lst V.sz n get)).length = n := zje _ _ _ _
 exact h r _ (by rw [hl]; exact hn) hq
theorem ye6 {α : Type} {V : Vw α} (K : znu V) {f g ty : Nat} {mk : List AV -> Option α} {cs : α -> List AV} {ok : AV -> Prop} {rd : AV -> List α} {p : α -> List α -> Bool} {pre : α -> List α -> Prop} {P : Program} (e1 : ok = okW V) (e2 : rd = rdW V) (hm : ∀ xs y, mk xs = some y -> xs = cs y)
   (h : ∀ r l, l.length <= 1000000 -> pre r l -> zc5 P f [zvb std V l, .fn g [] [.ref 500000 0]] [(500000, .box ty (cs r))] (.bool (p r l)) [(500000, .box ty (cs r))]) : zfu P (yuf f g ty V.sz mk ok rd p pre std) := by
 intro raw ob T hT hp
 unfold yuf at hT
 simp only at hT
 split at hT
 rotate_left
 · cases hT
 rename_i s n get k q
 split at hT
 rotate_left
 · cases hT
 split at hT
 rotate_left
 · cases hT
 rename_i r hr
 cases hT
 obtain rfl := hm _ _ hr
 subst e1; subst e2
 obtain ⟨ho, hn, hq⟩ := hp
 have ho : okW V (.lst V.sz n get) := ho
 refine zow (fun h D μ vs hr => ylg (fun v => zop K ho) hr) ?_
 have hl : (rdW V (.lst V.sz n get)).length = n := zje _ _ _ _
 exact h r _ (by rw [hl]; exact hn) hq
def yqc (L : zaa) : zmi := yud 94 52 (yq9 L) rtP rt2 L
def yss (L : zaa) : zmi := yud 100 54 (ysp L) epP ep2 L
def yqa (L : zaa) : zmi := yu9 142 94 52 4 (yq9 L) zsv zk6 yqb rt2L L
def ysq (L : zaa) : zmi := yu9 147 100 54 6 (ysp L) zk7 zhm ysr ywj L
def yqd (L : zaa) : zmi := yuf 93 94 52 4 (yq9 L) zsv zk6 zmk rt2L L
def yst (L : zaa) : zmi := yuf 99 100 54 6 (ysp L) zk7 zhm zr8 ywj L
def ixfA {α : Type} (L : zaa) (no : α -> List α -> Nat -> Prop) (r : α) (l : List α) : Nat -> St -> Option Ann := fun id st => match id with
 | 0 => some ⟨Nat, fun i => [(8, .int .i64 (L zav i))], fun i => [], [0, 1, 6, 7], [500000], fun i => L (L (L no r) l) i, fun i => L2 L toM l i⟩
 | _ => none
theorem yq8 {r x : Rt} (hp : rt2 r x) : upto 1000000000 x.h /\ upto 1000000000 r.h /\ (zhq x.h = zhq r.h -> seq x.p r.p = rtP r x) /\ (¬zhq x.h = zhq r.h -> false = rtP r x) := by
 refine ⟨?_, ?_, fun h => ?_, fun h => ?_⟩
 · have := hp.2
   show _ <= 1000000000
   omega
 · have := hp.1
   show _ <= 1000000000
   omega
 · rw [rtP, decide_eq_true h, Bool.true_and, Bool.eq_iff_iff]; simp [seq]
 · rw [rtP, decide_eq_false h]; rfl
theorem yd8 (r x : Ep) : (ieq x.pl.a r.pl.a && (ieq x.pl.b r.pl.b && (ieq x.pl.c r.pl.c && (ieq x.pl.d r.pl.d && true))) && (ieq x.pl.p r.pl.p && true)) = epP r x := by
 rw [Bool.eq_iff_iff]
 simp only [ieq, epP, Bool.and_eq_true, decide_eq_true_eq, beq_iff_eq, plEq, and_true]
 simp [and_assoc]
theorem zwv : zfu Tryz.prog (yqc std) := by
 refine ydm (cs := yaf std) (fun _ _ => zs7) fun r x hp => ?_
 refine zbp (T := tt) (S := fun L => zcb [zoy L] []) (lo := noA) (lb := noA) 5 (fn := Tryz.f94) (xs := fun L => [.agg (yaf L x), .ref 500000 0]) (rts := fun L => [.bool (L2 L rtP r x)]) (O := fun L => [(500000, .box 52 (yaf L r))]) (O1 := fun L => [(500000, .box 52 (yaf L r))]) rfl rfl (by kernel_rfl) (by kernel_rfl) (by kernel_rfl) zab (zay ⟨znd, trivial⟩ trivial) (by kernel_rfl) ?_
 intro L P' Q' hL hP hQ
 (cbv; try simp only [syT, true_and, and_true])
 (subst hL; subst hQ; simp only [L2, L3, std] at *; try simp only [syS, reduceCtorEq, Int.reduceToNat, Int.reduceAdd, Int.reduceSub] at *)
 exact yq8 hp
theorem zyb : zfu Tryz.prog (yss std) := by
 refine ydm (cs := yd9 std) (fun _ _ => ztn) fun r x hp => ?_
 refine zbp (T := tt) (S := fun L => zcb [] []) (lo := noA) (lb := noA) 5 (fn := Tryz.f100) (xs := fun L => [.agg (yd9 L x), .ref 500000 0]) (rts := fun L => [.bool (L2 L epP r x)]) (O := fun L => [(500000, .box 54 (yd9 L r))]) (O1 := fun L => [(500000, .box 54 (yd9 L r))]) rfl rfl (by kernel_rfl) (by kernel_rfl) (by kernel_rfl) zab (zay trivial trivial) (by kernel_rfl) ?_
 intro L P' Q' hL hP hQ
 (cbv; try simp only [syT, true_and, and_true])
 (subst hL; subst hQ; simp only [L2, L3, std] at *; try simp only [syS, reduceCtorEq, Int.reduceToNat, Int.reduceAdd, Int.reduceSub] at *)
 exact yd8 r x
theorem zwu : zfu Tryz.prog (yqa std) := by
 refine ycj zea rfl rfl (cs := yaf std) (fun _ _ => zs7) fun r l hz hp => ?_
 refine zbp (T := tt) (S := fun L => zcb [] [yqc L]) (lo := fun L => ixfA L rtNo r l) (lb := noA) 5 (fn := Tryz.f142) (xs := fun L => [zmo L l, .fn 94 [] [.ref 500000 0]]) (rts := fun L => [.int .i64 (L2 L yqb r l)]) (O := fun L => [(500000, .box 52 (yaf L r))]) (O1 := fun L => [(500000, .box 52 (yaf L r))]) rfl rfl (by kernel_rfl) (by kernel_rfl) (by kernel_rfl) zab (zay trivial ⟨zwv, trivial⟩) (by kernel_rfl) ?_
 intro L P' Q' hL hP hQ
 have hE : ∀ y : Rt, L (L (L (L Rt.mk (L Rt.h y)) (L Rt.p y)) (L Rt.c y)) (L Rt.i y) = y := by subst hL; intro y; rfl
 (cbv; try simp only [syT, true_and, and_true])
 refine ⟨⟨0, ?_⟩, fun i hi => ?_⟩
 · (cbv; try simp only [syT, true_and, and_true])
   (subst hL; subst hQ; simp only [L2, L3, std] at *; try simp only [syS, reduceCtorEq, Int.reduceToNat, Int.reduceAdd, Int.reduceSub] at *)
   exact zjk _ _
 · have hi2 : rtNo r l i := by
     have h := hi
     rw [hL] at h
     exact h
   clear hi
   (cbv; try simp only [syT, true_and, and_true])
   simp only [hE]
   have hl : zad l = l.length := rfl
   refine ⟨fun hlt => ⟨?_, ?_, fun hb => ?_, fun hb => ⟨i + 1, ?_⟩⟩, fun hge => ?_⟩
   · (subst hL; subst hQ; simp only [L2, L3, std] at *; try simp only [syS, reduceCtorEq, Int.reduceToNat, Int.reduceAdd, Int.reduceSub] at *)
     omega
   · (subst hL; subst hQ; simp only [L2, L3, std] at *; try simp only [syS, reduceCtorEq, Int.reduceToNat, Int.reduceAdd, Int.reduceSub] at *)
     exact hp _ (by rw [zb5, zak (V := rtV) (by omega)]; exact List.getElem_mem _)
   · (subst hL; subst hQ; simp only [L2, L3, std] at *; try simp only [syS, reduceCtorEq, Int.reduceToNat, Int.reduceAdd, Int.reduceSub] at *)
     exact (zfg (V := rtV) hi2 (by omega) hb).symm
   · (cbv; try simp only [syT, true_and, and_true])
     try simp only [hE]
     (subst hL; subst hQ; simp only [L2, L3, std] at *; try simp only [syS, reduceCtorEq, Int.reduceToNat, Int.reduceAdd, Int.reduceSub] at *)
     exact ⟨by omega, ze3 (V := rtV) hi2 (by omega) hb, by show l.length - (i + 1) + 1 <= l.length - i; omega⟩
   · (subst hL; subst hQ; simp only [L2, L3, std] at *; try simp only [syS, reduceCtorEq, Int.reduceToNat, Int.reduceAdd, Int.reduceSub] at *)
     exact (zfh hi2 (by omega)).symm
theorem zya : zfu Tryz.prog (ysq std) := by
 refine ycj zct rfl rfl (cs := yd9 std) (fun _ _ => ztn) fun r l hz hp => ?_
 refine zbp (T := tt) (S := fun L => zcb [] [yss L]) (lo := fun L => ixfA L epNo r l) (lb := noA) 5 (fn := Tryz.f147) (xs := fun L => [zho L l, .fn 100 [] [.ref 500000 0]]) (rts := fun L => [.int .i64 (L2 L ysr r l)]) (O := fun L => [(500000, .box 54 (yd9 L r))]) (O1 := fun L => [(500000, .box 54 (yd9 L r))]) rfl rfl (by kernel_rfl) (by kernel_rfl) (by kernel_rfl) zab (zay trivial ⟨zyb, trivial⟩) (by kernel_rfl) ?_
 intro L P' Q' hL hP hQ
 have hE : ∀ y : Ep, L (L Ep.mk (zlm L (L Pl.a (L Ep.pl y)) (L Pl.b (L Ep.pl y)) (L Pl.c (L Ep.pl y)) (L Pl.d (L Ep.pl y)) (L Pl.p (L Ep.pl y)))) (L Ep.w y) = y := by subst hL; intro y; rfl
 (cbv; try simp only [syT, true_and, and_true])
 refine ⟨⟨0, ?_⟩, fun i hi => ?_⟩
 · (cbv; try simp only [syT, true_and, and_true])
   (subst hL; subst hQ; simp only [L2, L3, std] at *; try simp only [syS, reduceCtorEq, Int.reduceToNat, Int.reduceAdd, Int.reduceSub] at *)
   exact zjk _ _
 · have hi2 : epNo r l i := by
     have h := hi
     rw [hL] at h
     exact h
   clear hi
   (cbv; try simp only [syT, true_and, and_true])
   simp only [hE]
   have hl : zad l = l.length := rfl
   refine ⟨fun hlt => ⟨?_, ?_, fun hb => ?_, fun hb => ⟨i + 1, ?_⟩⟩, fun hge => ?_⟩
   · (subst hL; subst hQ; simp only [L2, L3, std] at *; try simp only [syS, reduceCtorEq, Int.reduceToNat, Int.reduceAdd, Int.reduceSub] at *)
     omega
   · (subst hL; subst hQ; simp only [L2, L3, std] at *; try simp only [syS, reduceCtorEq, Int.reduceToNat, Int.reduceAdd, Int.reduceSub] at *)
     exact hp _ (by rw [zb6, zak (V := epV) (by omega)]; exact List.getElem_mem _)
   · (subst hL; subst hQ; simp only [L2, L3, std] at *; try simp only [syS, reduceCtorEq, Int.reduceToNat, Int.reduceAdd, Int.reduceSub] at *)
     exact (zfg (V := epV) hi2 (by omega) hb).symm
   · (cbv; try simp only [syT, true_and, and_true])
     try simp only [hE]
     (subst hL; subst hQ; simp only [L2, L3, std] at *; try simp only [syS, reduceCtorEq, Int.reduceToNat, Int.reduceAdd, Int.reduceSub] at *)
     exact ⟨by omega, ze3 (V := epV) hi2 (by omega) hb, by show l.length - (i + 1) + 1 <= l.length - i; omega⟩
   · (subst hL; subst hQ; simp only [L2, L3, std] at *; try simp only [syS, reduceCtorEq, Int.reduceToNat, Int.reduceAdd, Int.reduceSub] at *)
     exact (zfh hi2 (by omega)).symm
theorem zww : zfu Tryz.prog (yqd std) := by
 refine ye6 zea rfl rfl (cs := yaf std) (fun _ _ => zs7) fun r l hz hp => ?_
 refine zbp (T := tt) (S := fun L => zcb [] [yqa L]) (lo := fun L => noA L) (lb := noA) 5 (fn := Tryz.f93) (xs := fun L => [zmo L l, .fn 94 [] [.ref 500000 0]]) (rts := fun L => [.bool (L2 L zmk r l)]) (O := fun L => [(500000, .box 52 (yaf L r))]) (O1 := fun L => [(500000, .box 52 (yaf L r))]) rfl rfl (by kernel_rfl) (by kernel_rfl) (by kernel_rfl) zab (zay trivial ⟨zwu, trivial⟩) (by kernel_rfl) ?_
 intro L P' Q' hL hP hQ
 have hE : ∀ y : Rt, L (L (L (L Rt.mk (L Rt.h y)) (L Rt.p y)) (L Rt.c y)) (L Rt.i y) = y := by subst hL; intro y; rfl
 (cbv; try simp only [syT, true_and, and_true])
 simp only [hE]
 (subst hL; subst hQ; simp only [L2, L3, std] at *; try simp only [syS, reduceCtorEq, Int.reduceToNat, Int.reduceAdd, Int.reduceSub] at *)
 simp only [yli]
 refine ⟨⟨yly _, hz, hp⟩, ?_⟩
 have := zg5 (rtP r) l
 rw [znh, show zmk r l = l.any (rtP r) from rfl, <- this]; rfl
theorem zyc : zfu Tryz.prog (yst std) := by
 refine ye6 zct rfl rfl (cs := yd9 std) (fun _ _ => ztn) fun r l hz hp => ?_
 refine zbp (T := tt) (S := fun L => zcb [] [ysq L]) (lo := fun L => noA L) (lb := noA) 5 (fn := Tryz.f99) (xs := fun L => [zho L l, .fn 100 [] [.ref 500000 0]]) (rts := fun L => [.bool (L2 L zr8 r l)]) (O := fun L => [(500000, .box 54 (yd9 L r))]) (O1 := fun L => [(500000, .box 54 (yd9 L r))]) rfl rfl (by kernel_rfl) (by kernel_rfl) (by kernel_rfl) zab (zay trivial ⟨zya, trivial⟩) (by kernel_rfl) ?_
 intro L P' Q' hL hP hQ
 have hE : ∀ y : Ep, L (L Ep.mk (zlm L (L Pl.a (L Ep.pl y)) (L Pl.b (L Ep.pl y)) (L Pl.c (L Ep.pl y)) (L Pl.d (L Ep.pl y)) (L Pl.p (L Ep.pl y)))) (L Ep.w y) = y := by subst hL; intro y; rfl
 (cbv; try simp only [syT, true_and, and_true])
 simp only [hE]
 (subst hL; subst hQ; simp only [L2, L3, std] at *; try simp only [syS, reduceCtorEq, Int.reduceToNat, Int.reduceAdd, Int.reduceSub] at *)
 simp only [yar]
 refine ⟨⟨ybf _, hz, hp⟩, ?_⟩
 have := zg5 (epP r) l
 rw [znh, show zr8 r l = l.any (epP r) from rfl, <- this]; rfl
def yby (x : Ls) (a : List Ls) : Int := zj7 [ym3 x.n (a.map Ls.n), soZ (decide (x.pl.p = 0)) 7, soZ (a.any fun y => zgq y.pl x.pl) 13, soZ (decide (x.rs.length = 0)) 12]
def yjv (x : Cl) (a : List Cl) : Int := zj7 [ym3 x.n (a.map Cl.n), soZ (decide (x.es.length = 0)) 12]
def zxi (x : Ep) : Bool := decide (x.pl.p = 0) || (zen x.pl || (decide (x.w < 1) || decide (100 < x.w)))
def yjp (x : Ep) (a : List Ep) : Int := zj7 [soZ (zxi x) 7, soZ (zr8 x a) 11]
noncomputable def yae (c : Cf) (x : Rt) (a : List Rt) : Int := zj7 [ziu x.h, zqf x.p, soZ (!zth c.cs x.c) 12, soZ (zmk x a) 11]
def ybq (x : Ls) (l : List Ls) (i : Nat) : Bool := (l.take i).any fun y => zgq y.pl x.pl
def leM {α : Type} (l : List α) (i : Nat) : Prop := i <= l.length
def yc2 (l : List Ls) (i : Nat) : Prop := leM l i
def zt4 (l : List Cl) (i : Nat) : Prop := leM l i
def lsnA (L : zaa) (x : Ls) (l : List Ls) : Nat -> St -> Option Ann := fun id st => match id with
 | 0 => some ⟨Nat, fun i => [(11, .int .i64 (L zav i)), (5, .sl 900 1 0 i), (6, .bool (L3 L ybq x l i))], fun i => [(900, .row 9 1 i (fun q _ => .str (L Ls.n (L2 L za4 l q))))], [2, 9, 10], [2], fun i => L2 L yc2 l i, fun i => L2 L yna l i⟩
 | _ => none
theorem ys4 (a b : Int) : ieq a b = decide (a = b) := by simp [ieq, Bool.beq_eq_decide_eq]
theorem yh7 (n : Nat) : ieq (n : Int) 0 = decide (n = 0) := by
 rw [ys4, decide_eq_decide]; omega
theorem znb {x : Ls} {l : List Ls} {i : Nat} (h : i < l.length) : ybq x l (i + 1) = (ybq x l i || zgq (za4 l i).pl x.pl) := by
 unfold ybq
 rw [List.take_succ_eq_append_getElem h, List.any_append, za4, zak (V := lsV) h]; simp
theorem ybm {α : Type} (f : Nat -> List UInt8) (g : α -> List UInt8) (l : List α) {n : Nat} (hn : n = l.length) (h : ∀ i (hi : i < l.length), f i = g l[i]) : okT (.lst 1 n fun q _ => .str (f q)) /\ rdT (.lst 1 n fun q _ => .str (f q)) = l.map g := by
 subst hn
 refine ⟨⟨rfl, fun i _ => ⟨_, rfl⟩⟩, ?_⟩
 unfold rdT
 apply List.ext_getElem
 · simp
 · intro i h1 h2
   simp only [List.getElem_map, List.getElem_range]
   exact h i (by simpa using h1)
theorem zhi (l : List Int) {n : Nat} (hn : n = l.length) : okJ (.lst 1 n fun q _ => .int .i64 (zdf l q)) /\ rdJ (.lst 1 n fun q _ => .int .i64 (zdf l q)) = l := by
 subst hn
 refine ⟨⟨rfl, fun i _ => ⟨_, rfl⟩⟩, ?_⟩
 unfold rdJ
 apply List.ext_getElem
 · simp
 · intro i h1 h2
   simp only [List.getElem_map, List.getElem_range]
   show zdf l i = _
   rw [zdf, List.getD_eq_getElem?_getD, List.getElem?_eq_getElem h2]; rfl
theorem zsl (f : Nat -> List UInt8) (i q : Nat) (hq : q < i + 1) : zia std (zbw q i) (AV.str (f q)) (AV.str (zca [f i] (q - i))) = AV.str (f q) := by
 by_cases h : q < i
 · rw [zgl h]; rfl
 · obtain rfl : q = i := by omega
   rw [zht (by omega), Nat.sub_self]; rfl
theorem zpb {l m : List Int} {n : Nat} (hn : n = l.length) (h : l = m) (h2 : n <= 100) : (okJ (.lst 1 n fun q _ => .int .i64 (zdf l q)) /\ (rdJ (.lst 1 n fun q _ => .int .i64 (zdf l q))).length <= 1000000) /\ zj7 (rdJ (.lst 1 n fun q _ => .int .i64 (zdf l q))) = zj7 m := by
 obtain ⟨h3, h4⟩ := zhi l hn
 refine ⟨⟨h3, ?_⟩, ?_⟩
 · rw [h4]; omega
 · rw [h4, h]
def yme (L : zaa) : zbg := (49, fun xs => match xs with
 | [x, y] => some (L zji x /\ L zoq y /\ L zfn (L zii y), .int .i64 (L2 L yby (L zf2 x) (L zii y)))
 | _ => none)
theorem ygk : zaz Tryz.prog (yme std) := by
 intro xs p r h hp
 dsimp only [yme] at h |-
 split at h <;> cases h
 try simp only [L2, L3, std] at hp |-
 rename_i x y
 obtain ⟨ho, ho2, hz⟩ := hp
 refine zk2 zcd ho (yor zcd ho2 ?_)
 have hz : zfn (zii y) := hz
 show za7 _ _ [.agg ((List.range 7).map (lsC std (zf2 x))), zd3 std (zii y)] (.int .i64 (yby (zf2 x) (zii y)))
 generalize zf2 x = z at hz |-
 generalize zii y = l at hz |-
 have hz : l.length <= 1000000 := hz
 refine za2 (T := tt) (S := fun L => zao [yp1 L, zy6 L, yga L, ybt L]) (lo := fun L => lsnA L z l) (lb := noA) 5 (fn := Tryz.f49) (xs := fun L => [.agg [.str (L Ls.n z), .int .u8 (L Pl.a (L Ls.pl z)), .int .u8 (L Pl.b (L Ls.pl z)), .int .u8 (L Pl.c (L Ls.pl z)), .int .u8 (L Pl.d (L Ls.pl z)), .int .u16 (L Pl.p (L Ls.pl z)), zmo L (L Ls.rs z)], zd3 L l]) rfl rfl (by kernel_rfl) (by kernel_rfl) rfl zab (za3 ⟨zo8, zkm, zv0, ybu, trivial⟩) (by kernel_rfl) ?_
 intro L P' Q' hL hP hQ
 have hE2 : ∀ y : Pl, zlm L (L Pl.a y) (L Pl.b y) (L Pl.c y) (L Pl.d y) (L Pl.p y) = y := by subst hL; intro y; rfl
 (cbv; try simp only [syT, true_and, and_true])
 have hl : zad l = l.length := rfl
 refine ⟨⟨0, ?_⟩, fun i hi => ?_⟩
 · (cbv; try simp only [syT, true_and, and_true])
   (subst hL; subst hQ; simp only [L2, L3, std] at *; try simp only [syS, reduceCtorEq, Int.reduceToNat, Int.reduceAdd, Int.reduceSub] at *)
   exact ⟨rfl, Nat.zero_le _⟩
 · cbv at hi
   (cbv; try simp only [syT, true_and, and_true])
   refine ⟨fun hlt => ⟨?_, ?_, fun hb => ⟨i + 1, ?_⟩, fun hb => ⟨i + 1, ?_⟩⟩, fun hge => ?_⟩
   · (subst hL; subst hQ; simp only [L2, L3, std] at *; try simp only [syS, reduceCtorEq, Int.reduceToNat, Int.reduceAdd, Int.reduceSub] at *)
     exact ⟨by omega, by omega⟩
   · (subst hL; subst hQ; simp only [L2, L3, std] at *; try simp only [syS, reduceCtorEq, Int.reduceToNat, Int.reduceAdd, Int.reduceSub] at *)
     exact ⟨by omega, by omega⟩
   · (cbv; try simp only [syT, true_and, and_true])
     (subst hL; subst hQ; simp only [L2, L3, std] at *; try simp only [syS, reduceCtorEq, Int.reduceToNat, Int.reduceAdd, Int.reduceSub] at *)
     refine ⟨fun a b ha hb => zsl (fun q => (za4 l q).n) i a ha, ?_, by omega, by show i + 1 <= l.length; omega, by show l.length - (i + 1) + 1 <= l.length - i; omega⟩
     rw [znb (by omega), hb]; rfl
   · (cbv; try simp only [syT, true_and, and_true])
     (subst hL; subst hQ; simp only [L2, L3, std] at *; try simp only [syS, reduceCtorEq, Int.reduceToNat, Int.reduceAdd, Int.reduceSub] at *)
     refine ⟨fun a b ha hb => zsl (fun q => (za4 l q).n) i a ha, ?_, by omega, by show i + 1 <= l.length; omega, by show l.length - (i + 1) + 1 <= l.length - i; omega⟩
     rw [znb (by omega), hb]; rfl
   · (subst hL; subst hQ; simp only [L2, L3, std] at *; try simp only [syS, reduceCtorEq, Int.reduceToNat, Int.reduceAdd, Int.reduceSub] at *)
     have hi : i <= l.length := hi
     obtain rfl : i = l.length := by omega
     obtain ⟨h1, h2⟩ := ybm (fun q => (za4 l q).n) Ls.n l rfl (fun i hi => by rw [za4, zak (V := lsV) hi])
     refine ⟨⟨h1, ?_⟩, zpb (n := 4) rfl ?_ (by decide)⟩
     · show List.length _ <= _
       rw [h2, List.length_map]; exact hz
     · rw [h2, yh7, ys4, ybq, List.take_length]; rfl
def clsA (L : zaa) (x : Cl) (l : List Cl) : Nat -> St -> Option Ann := fun id st => match id with
 | 0 => some ⟨Nat, fun i => [(10, .int .i64 (L zav i)), (5, .sl 900 1 0 i)], fun i => [(900, .row 9 1 i (fun q _ => .str (L Cl.n (L2 L za5 l q))))], [2, 8, 9], [2], fun i => L2 L zt4 l i, fun i => L2 L yeq l i⟩
 | _ => none
def yo2 (L : zaa) : zbg := (51, fun xs => match xs with
 | [x, y] => some (L zhn x /\ L zjh y /\ L zfn (L zgh y), .int .i64 (L2 L yjv (L zfz x) (L zgh y)))
 | _ => none)
theorem yi6 : zaz Tryz.prog (yo2 std) := by
 intro xs p r h hp
 dsimp only [yo2] at h |-
 split at h <;> cases h
 try simp only [L2, L3, std] at hp |-
 rename_i x y
 obtain ⟨ho, ho2, hz⟩ := hp
 refine zk2 zc3 ho (yor zc3 ho2 ?_)
 have hz : zfn (zgh y) := hz
 show za7 _ _ [.agg ((List.range 2).map (clC std (zfz x))), zcn std (zgh y)] (.int .i64 (yjv (zfz x) (zgh y)))
 generalize zfz x = z at hz |-
 generalize zgh y = l at hz |-
 have hz : l.length <= 1000000 := hz
 refine za2 (T := tt) (S := fun L => zao [yp1 L, zy6 L, yga L]) (lo := fun L => clsA L z l) (lb := noA) 5 (fn := Tryz.f51) (xs := fun L => [.agg [.str (L Cl.n z), zho L (L Cl.es z)], zcn L l]) rfl rfl (by kernel_rfl) (by kernel_rfl) rfl zab (za3 ⟨zo8, zkm, zv0, trivial⟩) (by kernel_rfl) ?_
 intro L P' Q' hL hP hQ
 (cbv; try simp only [syT, true_and, and_true])
 have hl : zad l = l.length := rfl
 refine ⟨⟨0, ?_⟩, fun i hi => ?_⟩
 · (cbv; try simp only [syT, true_and, and_true])
   (subst hL; subst hQ; simp only [L2, L3, std] at *; try simp only [syS, reduceCtorEq, Int.reduceToNat, Int.reduceAdd, Int.reduceSub] at *)
   exact Nat.zero_le _
 · cbv at hi
   (cbv; try simp only [syT, true_and, and_true])
   refine ⟨fun hlt => ⟨?_, ?_, ⟨i + 1, ?_⟩⟩, fun hge => ?_⟩
   · (subst hL; subst hQ; simp only [L2, L3, std] at *; try simp only [syS, reduceCtorEq, Int.reduceToNat, Int.reduceAdd, Int.reduceSub] at *)
     exact ⟨by omega, by omega⟩
   · (subst hL; subst hQ; simp only [L2, L3, std] at *; try simp only [syS, reduceCtorEq, Int.reduceToNat, Int.reduceAdd, Int.reduceSub] at *)
     exact ⟨by omega, by omega⟩
   · (cbv; try simp only [syT, true_and, and_true])
     (subst hL; subst hQ; simp only [L2, L3, std] at *; try simp only [syS, reduceCtorEq, Int.reduceToNat, Int.reduceAdd, Int.reduceSub] at *)
     exact ⟨fun a b ha hb => zsl (fun q => (za5 l q).n) i a ha, by omega, by show i + 1 <= l.length; omega, by show l.length - (i + 1) + 1 <= l.length - i; omega⟩
   · (subst hL; subst hQ; simp only [L2, L3, std] at *; try simp only [syS, reduceCtorEq, Int.reduceToNat, Int.reduceAdd, Int.reduceSub] at *)
     have hi : i <= l.length := hi
     obtain rfl : i = l.length := by omega
     obtain ⟨h1, h2⟩ := ybm (fun q => (za5 l q).n) Cl.n l rfl (fun i hi => by rw [za5, zak (V := clV) hi])
     refine ⟨⟨h1, ?_⟩, zpb (n := 2) rfl ?_ (by decide)⟩
     · show List.length _ <= _
       rw [h2, List.length_map]; exact hz
     · rw [h2, yh7]; rfl
def ynn (L : zaa) : zbg := (52, fun xs => match xs with
 | [x, y] => some (L zlf x /\ L zk7 y /\ L zfn (L zhm y), .int .i64 (L2 L yjp (L zij x) (L zhm y)))
 | _ => none)
theorem yhs : zaz Tryz.prog (ynn std) := by
 intro xs p r h hp
 dsimp only [ynn] at h |-
 split at h <;> cases h
 try simp only [L2, L3, std] at hp |-
 rename_i x y
 obtain ⟨ho, ho2, hz⟩ := hp
 refine zk2 zct ho (yor zct ho2 ?_)
 have hz : zfn (zhm y) := hz
 show za7 _ _ [.agg ((List.range 6).map (epC std (zij x))), zho std (zhm y)] (.int .i64 (yjp (zij x) (zhm y)))
 generalize zij x = z at hz |-
 generalize zhm y = l at hz |-
 have hz : l.length <= 1000000 := hz
 refine za2 (T := tt) (S := fun L => zcb [yp1 L, zy6 L, yic L] [yst L]) (lo := noA) (lb := noA) 5 (fn := Tryz.f52) (xs := fun L => [.agg [.int .u8 (L Pl.a (L Ep.pl z)), .int .u8 (L Pl.b (L Ep.pl z)), .int .u8 (L Pl.c (L Ep.pl z)), .int .u8 (L Pl.d (L Ep.pl z)), .int .u16 (L Pl.p (L Ep.pl z)), .int .i64 (L Ep.w z)], zho L l]) rfl rfl (by kernel_rfl) (by kernel_rfl) rfl zab (zay ⟨zo8, zkm, zw3, trivial⟩ ⟨zyc, trivial⟩) (by kernel_rfl) ?_
 intro L P' Q' hL hP hQ
 have hE : ∀ y : Ep, L (L Ep.mk (zlm L (L Pl.a (L Ep.pl y)) (L Pl.b (L Ep.pl y)) (L Pl.c (L Ep.pl y)) (L Pl.d (L Ep.pl y)) (L Pl.p (L Ep.pl y)))) (L Ep.w y) = y := by subst hL; intro y; rfl
 (cbv; try simp only [syT, true_and, and_true])
 simp only [hE]
 (subst hL; subst hQ; simp only [L2, L3, std] at *; try simp only [syS, reduceCtorEq, Int.reduceToNat, Int.reduceAdd, Int.reduceSub] at *)
 simp only [yar]
 have hw : zk7 (AV.lst 6 (zad l) fun i => epC (@std) (zb6 l i)) /\ upM (zad l) /\ ywj z l := ⟨ybf _, hz, fun _ _ => trivial⟩
 have key : ∀ b, b = zxi z -> (okJ (AV.lst 1 2 fun i x => AV.int .i64 (zdf [soZ b 7, soZ (zr8 z l) 11] i)) /\ (rdJ (AV.lst 1 2 fun i x => AV.int .i64 (zdf [soZ b 7, soZ (zr8 z l) 11] i))).length <= 1000000) /\ zj7 (rdJ (AV.lst 1 2 fun i x => AV.int .i64 (zdf [soZ b 7, soZ (zr8 z l) 11] i))) = yjp z l := by
   rintro b rfl
   exact zpb (n := 2) rfl rfl (by decide)
 have e1 : zen (zlm (@std) z.pl.a z.pl.b z.pl.c z.pl.d z.pl.p) = zen z.pl := rfl
 rw [e1]
 refine ⟨fun h1 => ⟨hw, key _ ?_⟩, fun h1 => ⟨fun h2 => ⟨hw, key _ ?_⟩, fun h2 => ⟨fun h3 => ⟨hw, key _ ?_⟩, fun h3 => ⟨hw, key _ ?_⟩⟩⟩⟩
 · rw [zxi, decide_eq_true h1]; rfl
 · rw [zxi, h2]; simp
 · rw [zxi, decide_eq_true h3]; simp
 · rw [zxi, decide_eq_false h1, h2, decide_eq_false (show ¬ z.w < 1 by omega)]; simp [ilt]
theorem ycr (l : List Cl) (s : List UInt8) : zth l s = l.any (fun a => decide (a.n = s)) := zvm l
def yvr (l : List Rt) : Prop := ∀ x ∈ l, zdu x = true
def yq7 (c : Cf) (x : Rt) (l : List Rt) : Prop := zmp c /\ zdu x = true /\ yvr l /\ zfn l
noncomputable def ylb (L : zaa) : zbg := (50, fun xs => match xs with
 | [x, y, z] => some (L zd2 x /\ L zxh y /\ L zsv z /\ L3 L yq7 (L zah x) (L zla y) (L zk6 z), .int .i64 (L3 L yae (L zah x) (L zla y) (L zk6 z)))
 | _ => none)
theorem yk1 {α : Type} {V : Vw α} (K : znu V) {P : Program} {f : FuncId} {a x r : AV} {q : List AV} (ho : okG V x) (h : za7 P f (a :: .agg ((List.range V.sz).map (V.cell std (rdG V x))) :: q) r) : za7 P f (a :: x :: q) r :=
 ze0 (fun h D vs hr => yql (fun v => G_R K ho) hr) h
theorem rl_3 {h : Array Obj} {D : Nat -> Prop} {μ : Mu} {a b x y : AV} {r : List AV} {vs : Array Value} (e : ∀ v, R h D μ x v -> R h D μ y v) (hr : RL h D μ (a :: b :: x :: r) vs) : RL h D μ (a :: b :: y :: r) vs := by
 refine ⟨by rw [<- hr.1]; rfl, fun i z v hz hv => ?_⟩
 match i, hz with
 | 0, hz => exact hr.2 0 z v hz hv
 | 1, hz => exact hr.2 1 z v hz hv
 | 2, hz => cases hz; exact e v (hr.2 2 x v rfl hv)
 | i + 3, hz => exact hr.2 (i + 3) z v hz hv
theorem yx5 {α : Type} {V : Vw α} (K : znu V) {P : Program} {f : FuncId} {a b x r : AV} {q : List AV} (ho : okW V x) (h : za7 P f (a :: b :: zvb std V (rdW V x) :: q) r) : za7 P f (a :: b :: x :: q) r :=
 ze0 (fun h D vs hr => rl_3 (fun v => zop K ho) hr) h
theorem yfl : zaz Tryz.prog (ylb std) := by
 intro xs p r h hp
 dsimp only [ylb] at h |-
 split at h <;> cases h
 try simp only [L2, L3, std] at hp |-
 rename_i x y z
 obtain ⟨ho, ho2, ho3, hz⟩ := hp
 refine zk2 zbi ho (yk1 zea ho2 (yx5 zea ho3 ?_))
 have hz : yq7 (zah x) (zla y) (zk6 z) := hz
 show za7 _ _ [.agg ((List.range 3).map (cfC std (zah x))), .agg ((List.range 4).map (rtC std (zla y))), zmo std (zk6 z)] (.int .i64 (yae (zah x) (zla y) (zk6 z)))
 generalize zah x = c at hz |-
 generalize zla y = r at hz |-
 generalize zk6 z = l at hz |-
 obtain ⟨h1, h2, h3, h4⟩ := hz
 refine za2 (T := tt) (S := fun L => zcb [yp1 L, zy6 L, yo1 L, yck L, yb6 L] [yqd L]) (lo := noA) (lb := noA) 5 (fn := Tryz.f50) (xs := fun L => [.agg [.int .u64 (L Cf.v c), zd3 L (L Cf.ls c), zcn L (L Cf.cs c)], .agg [.str (L Rt.h r), .str (L Rt.p r), .str (L Rt.c r), .int .u64 (L Rt.i r)], zmo L l]) rfl rfl (by kernel_rfl) (by kernel_rfl) rfl zab (zay ⟨zo8, zkm, yi5, ycl, yb7, trivial⟩ ⟨zww, trivial⟩) (by kernel_rfl) ?_
 intro L P' Q' hL hP hQ
 have hE : ∀ y : Rt, L (L (L (L Rt.mk (L Rt.h y)) (L Rt.p y)) (L Rt.c y)) (L Rt.i y) = y := by subst hL; intro y; rfl
 have hG : ∀ y : Cf, L zah (.agg [.int .u64 (L Cf.v y), .lst 7 (L zad (L Cf.ls y)) (fun i => lsC L (L (L za4 (L Cf.ls y)) i)), .lst 2 (L zad (L Cf.cs y)) (fun i => clC L (L (L za5 (L Cf.cs y)) i))]) = y := by subst hL; exact fun y => (gK zbi y _ rfl).2
 have hO : ∀ y : Cf, L zd2 (.agg [.int .u64 (L Cf.v y), .lst 7 (L zad (L Cf.ls y)) (fun i => lsC L (L (L za4 (L Cf.ls y)) i)), .lst 2 (L zad (L Cf.cs y)) (fun i => clC L (L (L za5 (L Cf.cs y)) i))]) := by subst hL; exact fun y => (gK zbi y _ rfl).1
 (cbv; try simp only [syT, true_and, and_true])
 simp only [hE, hG, hO, true_and]
 (subst hL; subst hQ; simp only [L2, L3, std] at *; try simp only [syS, reduceCtorEq, Int.reduceToNat, Int.reduceAdd, Int.reduceSub] at *)
 clear hG hO
 simp only [yli]
 simp only [zdu, Bool.and_eq_true, decide_eq_true_eq] at h2
 refine ⟨h1, ⟨yly _, h4, fun x hx => ?_⟩, ?_, ?_, zpb (n := 4) rfl rfl (by decide)⟩
 · have q := h3 x hx
   simp only [zdu, Bool.and_eq_true, decide_eq_true_eq] at q
   exact ⟨by omega, by omega⟩
 · show _ <= 1000000000
   omega
 · show _ <= 1000000000
   omega
structure Ft where
 c : Int
 w : List UInt8
 deriving DecidableEq
def ftC (L : zaa) (x : Ft) : Nat -> AV
 | 0 => .int .i64 (L Ft.c x)
 | _ => .str (L Ft.w x)
def ftV : Vw Ft := ⟨2, ftC, fun c => ⟨(c 0).toI, zxa (c 1)⟩, fun c => isI .i64 (c 0) /\ isS (c 1), ⟨0, []⟩⟩
def zgi (l : List Ft) (i : Nat) : Ft := zlg ftV l i
def zqn (L : zaa) (l : List Ft) : AV := .lst 2 (L zad l) (fun i => ftC L (L (L zgi l) i))
def ym0 (x : AV) : Prop := okW ftV x
def zx9 (x : AV) : List Ft := rdW ftV x
theorem ycp : znu ftV := by
 refine ⟨fun c hc j hj h D μ v r => ?_, fun c x hx => ?_⟩
 · obtain ⟨h0, h1⟩ := hc
   match j, hj with
   | 0, _ => exact zp5 h0 r
   | 1, _ => exact zxv h1 r
 · have e0 := hx 0 (by decide)
   have e1 := hx 1 (by decide)
   refine ⟨⟨⟨_, e0⟩, ⟨_, e1⟩⟩, ?_⟩
   show Ft.mk (c 0).toI (zxa (c 1)) = x
   rw [e0, e1]; rfl
theorem yv8 (l : List Ft) : zx9 (.lst 2 (zad l) fun i => ftC std (zgi l i)) = l := (zd1 ycp l).2
theorem yvh (l : List Ft) : ym0 (.lst 2 (zad l) fun i => ftC std (zgi l i)) := (zd1 ycp l).1
def yov (o o' : Ob) : Prop := ∀ h D μ x, zid h D μ o x -> zid h D μ o' x
theorem yov.refl (o : Ob) : yov o o := fun _ _ _ _ h => h
inductive yee : List (Nat × Ob) -> List (Nat × Ob) -> Prop
 | nil : yee [] []
 | cons (n : Nat) {o o' : Ob} {r r' : List (Nat × Ob)} (h : yov o o') (hr : yee r r') : yee ((n, o) :: r) ((n, o') :: r')
theorem yee.none {O O' : List (Nat × Ob)} (h : yee O O') (i : Nat) : za1 O' i = Option.none ↔ za1 O i = Option.none := by
 induction h with
 | nil => exact Iff.rfl
 | cons n h hr ih =>
   simp only [za1]
   cases zaq n i <;> simp [ih]
theorem yee.get {O O' : List (Nat × Ob)} (h : yee O O') {i : Nat} {o' : Ob} (e : za1 O' i = some o') : ∃ o, za1 O i = some o /\ yov o o' := by
 induction h with
 | nil => cases e
 | cons n h hr ih =>
   simp only [za1] at e |-
   cases hb : zaq n i with
   | true => rw [hb] at e; cases e; exact ⟨_, rfl, h⟩
   | false => rw [hb] at e; exact ih e
theorem yvo {P : Program} {f : FuncId} {xs : List AV} {O O' : List (Nat × Ob)} {r : AV} {O1 : List (Nat × Ob)} (hO : yee O O') (h : zc5 P f xs O' r O1) : zc5 P f xs O r O1 := by
 intro D w μ vs hD hxs hdom hobs hinj hown hg hgb
 have hcall := h D w μ vs hD hxs (fun i => (hdom i).trans (hO.none i).symm) (fun i o x ho1 hx => by
   obtain ⟨o0, h1, h2⟩ := hO.get ho1
   exact h2 _ _ _ _ (hobs i o0 x h1 hx)) hinj hown hg hgb
 unfold zgg at hcall |-
 have key : ∀ e w', (∃ v D' μ', yoy D w μ O' O1 r e v w' D' μ') -> ∃ v D' μ', yoy D w μ O O1 r e v w' D' μ' := by
   rintro e w' ⟨v, D', μ', m⟩
   exact ⟨v, D', μ', { m with keep := fun i h1 h2 => m.keep i (fun h3 => h1 ((hO.none i).1 h3)) h2 }⟩
 split at hcall
 · exact hcall.mono fun e w' h => key e w' h
 · exact key _ _ hcall
 · exact hcall.elim
theorem yru {α : Type} {V : Vw α} (K : znu V) {ty n : Nat} {get : Nat -> Nat -> AV} (ho : okW V (.lst V.sz n get)) : yov (.row ty V.sz n get) (.row ty V.sz n (ywb std V (rdW V (.lst V.sz n get)))) := by
 intro h D μ x hx
 match x, hx with
 | some (b, z, m), ⟨r0, c, t, fr, e, r1, r2, r3, r4⟩ =>
   refine ⟨r0, c, t, fr, e, r1, r2, r3, fun i j hi hj => ?_⟩
   obtain ⟨v, v1, v2, v3⟩ := r4 i j hi hj
   refine ⟨v, v1, v2, ?_⟩
   show R h D zax (V.cell std (zlg V (rdW V (.lst V.sz n get)) i) j) v
   rw [yaw hi]
   exact K.turn _ (ho.2 i hi) j hj _ _ _ _ v3
 | none, h0 => exact h0
theorem ymi {ty n : Nat} {get : Nat -> Nat -> AV} (ho : okJ (.lst 1 n get)) : yov (.row ty 1 n get) (.row ty 1 n (fun i _ => .int .i64 (zdf (rdJ (.lst 1 n get)) i))) := by
 intro h D μ x hx
 match x, hx with
 | some (b, z, m), ⟨r0, c, t, fr, e, r1, r2, r3, r4⟩ =>
   refine ⟨r0, c, t, fr, e, r1, r2, r3, fun i j hi hj => ?_⟩
   obtain ⟨v, v1, v2, v3⟩ := r4 i j hi hj
   refine ⟨v, v1, v2, ?_⟩
   have : j = 0 := by omega
   subst this
   obtain ⟨y, hy⟩ := ho.2 i hi
   rw [hy] at v3
   show R h D zax (.int .i64 (zdf (rdJ (.lst 1 n get)) i)) v
   rw [rdJ, zux _ _ _ hi, hy]
   exact v3
 | none, h0 => exact h0
def ftI (e : Int) (w : List UInt8) : List Ft := if e ≠ 0 then [⟨e, w⟩] else []
def tlZ (e : Int) (w : List UInt8) (i : List Int) (o : List Ft) : List Ft := o ++ ftI e (whZ w i)
def L4 {α β γ δ ε : Type} (L : zaa) (f : α -> β -> γ -> δ -> ε) (a : α) (b : β) (c : γ) (d : δ) : ε := L (L (L (L f a) b) c) d
def zqy (L : zaa) (l : List Ft) : Ob := .row 62 2 (L zad l) (fun q => ftC L (L (L zgi l) q))
def tlO (L : zaa) (i : List Int) (o : List Ft) : List (Nat × Ob) := [(500000, .box 56 [.sl 500002 2 0 (L zad o)]), (500001, .row 3 1 (L zxt i) (fun q _ => .int .i64 (L2 L zdf i q))), (500002, zqy L o)]
def yuv (L : zaa) (e : Int) (w : List UInt8) (i : List Int) (o : List Ft) : List (Nat × Ob) := [(500000, .box 56 [.sl 900 2 0 (L zad (L4 L tlZ e w i o))]), (900, zqy L (L4 L tlZ e w i o))]
def tlA (L : zaa) (e : Int) (w : List UInt8) (i : List Int) (o : List Ft) : Nat -> St -> Option Ann := fun id st => match id with
 | 1000008 => some ⟨Nat, fun _ => [], fun _ => [(500000, .box 56 [.sl 900 2 0 (L zad (L4 L tlZ e w i o))]), (900, zqy L (L4 L tlZ e w i o))], [3], [], fun _ => True, fun _ => 0⟩
 | _ => none
theorem ybj {l : List Ft} {y : Ft} {q : Nat} (hq : q < l.length + 1) : zgi (l ++ [y]) q = if q < l.length then zgi l q else y := by
 unfold zgi
 rw [zak (V := ftV) (by simpa using hq)]
 split
 · rename_i h
   rw [List.getElem_append_left h, zak (V := ftV) h]
 · rename_i h
   obtain rfl : q = l.length := by omega
   rw [List.getElem_append_right (Nat.le_refl _)]; simp
theorem yco {l : List Ft} {c : Int} {w : List UInt8} {q j : Nat} (hq : q < l.length + 1) (hj : j < 2) : zia std (zbw q l.length) (ftC std (zgi l q) j) (zbq AV.dead [AV.int .i64 c, AV.str w] ((q - l.length) * 2 + j)) = ftC std (zgi (l ++ [⟨c, w⟩]) q) j := by
 rw [ybj hq]
 by_cases h : q < l.length
 · rw [zgl h, if_pos h, show q - l.length = 0 by omega]
   match j, hj with
   | 0, _ => rfl
   | 1, _ => rfl
 · rw [zht h, if_neg h, show q - l.length = 0 by omega]
   match j, hj with
   | 0, _ => rfl
   | 1, _ => rfl
theorem yis {e : Int} {w : List UInt8} {i : List Int} {o : List Ft} (h : ¬ e = 0) : tlZ e w i o = o ++ [⟨e, whZ w i⟩] := by rw [tlZ, ftI, if_pos h]
theorem ypz {w : List UInt8} {i : List Int} {o : List Ft} : tlZ 0 w i o = o := by rw [tlZ, ftI, if_neg (fun h => h rfl), List.append_nil]
theorem yut {e : Int} {w : List UInt8} {i : List Int} {o : List Ft} (hw : yk8 w i) (ho : o.length <= 1000000) : zc5 Tryz.prog 47 [.int .i64 e, .str w, .sl 500001 1 0 (zxt i), .ref 500000 0] (tlO std i o) (.tup []) (yuv std e w i o) := by
 refine zbp (T := tt) (S := fun L => zcb [yk6 L] []) (lo := fun L => tlA L e w i o) (lb := noA) 5 (fn := Tryz.f47) (xs := fun L => [.int .i64 e, .str w, .sl 500001 1 0 (L zxt i), .ref 500000 0]) (rts := fun L => []) (O := fun L => tlO L i o) (O1 := fun L => yuv L e w i o) rfl rfl (by kernel_rfl) (by kernel_rfl) (by kernel_rfl) zab (zay ⟨yev, trivial⟩ trivial) (by kernel_rfl) ?_
 intro L P' Q' hL hP hQ
 (cbv; try simp only [syT, true_and, and_true])
 refine ⟨⟨fun h1 => ⟨⟨?_, ?_⟩, ?_, ⟨0, ?_⟩⟩, fun h1 => ⟨0, ?_⟩⟩, fun x hx => ?_⟩
 all_goals try (cbv; try simp only [syT, true_and, and_true])
 all_goals (subst hL; subst hQ; simp only [L2, L3, std] at *; try simp only [syS, reduceCtorEq, Int.reduceToNat, Int.reduceAdd, Int.reduceSub] at *)
 · exact (zhi i rfl).1
 · rw [show rdJ (AV.lst 1 (zxt i) fun k x => AV.int .i64 (zdf i k)) = i from (zhi i rfl).2]; exact hw
 · have : zad o = o.length := rfl
   omega
 · rw [show rdJ (AV.lst 1 (zxt i) fun k x => AV.int .i64 (zdf i k)) = i from (zhi i rfl).2]
   have e1 : o.length + 1 = (tlZ e w i o).length := by rw [yis h1, List.length_append]; rfl
   refine ⟨⟨e1, fun a b ha hb => ?_⟩, e1⟩
   have ha : a < (tlZ e w i o).length := ha
   rw [yis h1]
   exact yco (by omega) hb
 · subst h1
   rw [show L4 std tlZ 0 w i o = o from ypz, ypz]
   exact ⟨⟨rfl, fun _ _ _ _ => rfl⟩, rfl⟩
def yuu (L : zaa) : zmi := (47, fun raw ob => match raw with
 | [.int .i64 e, .str w, .sl a 1 0 n, .ref k 0] => match ob a, ob k with
   | some (.row _ _ m get), some (.box _ [.sl b 2 0 q]) => match ob b with
     | some (.row _ _ m2 gf) => some ⟨[.int .i64 e, .str w, .sl 500001 1 0 n, .ref 500000 0], [(500000, .box 56 [.sl 500002 2 0 q]), (500001, .row 3 1 n get), (500002, .row 62 2 q gf)], L okJ (.lst 1 n get) /\ L2 L yk8 w (L rdJ (.lst 1 n get)) /\ L ym0 (.lst 2 q gf) /\ L upM q, .tup [], yuv L e w (L rdJ (.lst 1 n get)) (L zx9 (.lst 2 q gf))⟩
     | _ => none
   | _, _ => none
 | _ => none)
theorem yki : zfu Tryz.prog (yuu std) := by
 intro raw ob T h hp
 unfold yuu at h
 simp only at h
 split at h
 rotate_left
 · cases h
 rename_i e w a n k
 split at h
 rotate_left
 · cases h
 rename_i t1 s1 m get t2 b q _ _
 split at h
 rotate_left
 · cases h
 rename_i t3 s3 m2 gf _
 cases h
 obtain ⟨h1, h2, h3, h4⟩ := hp
 have h1 : okJ (.lst 1 n get) := h1
 have h3 : okW ftV (.lst ftV.sz q gf) := h3
 have h4 : q <= 1000000 := h4
 have e1 : zxt (rdJ (.lst 1 n get)) = n := by simp [rdJ, zxt]
 have e2 : zad (zx9 (.lst 2 q gf)) = q := zje _ _ _ _
 refine yvo (yee.cons _ (yov.refl _) (yee.cons _ (ymi h1) (yee.cons _ (yru ycp h3) .nil))) ?_
 have := yut (e := e) (o := zx9 (.lst 2 q gf)) h2 (by show zad _ <= _; rw [e2]; exact h4)
 unfold tlO zqy at this
 simp only [std, L2] at this
 rw [e1, e2] at this
 exact this
def yka : List UInt8 := [108, 105, 115, 116, 101, 110, 101, 114]
def ytr : List UInt8 := [114, 111, 117, 116, 101]
def ypr : List UInt8 := [99, 108, 117, 115, 116, 101, 114]
def yts : List UInt8 := [101, 110, 100, 112, 111, 105, 110, 116]
def wCfg : List UInt8 := [99, 111, 110, 102, 105, 103]
noncomputable def yuo (c : Cf) (i : Nat) (k : Nat) : List Ft := ftI (yae c (zb5 (za4 c.ls i).rs k) ((za4 c.ls i).rs.take k)) (whZ ytr [(i : Int), (k : Int)])
noncomputable def vfR (c : Cf) (i : Nat) : Nat -> List Ft
 | 0 => []
 | j + 1 => vfR c i j ++ yuo c i j
noncomputable def ykd (c : Cf) (i : Nat) : List Ft := ftI (yby (za4 c.ls i) (c.ls.take i)) (whZ yka [(i : Int)])
noncomputable def vfL (c : Cf) : Nat -> List Ft
 | 0 => []
 | i + 1 => (vfL c i ++ ykd c i) ++ vfR c i (za4 c.ls i).rs.length
noncomputable def vgL (c : Cf) (i j : Nat) : List Ft := (vfL c i ++ ykd c i) ++ vfR c i j
noncomputable def yup (c : Cf) (i : Nat) (k : Nat) : List Ft := ftI (yjp (zb6 (za5 c.cs i).es k) ((za5 c.cs i).es.take k)) (whZ yts [(i : Int), (k : Int)])
noncomputable def vfE (c : Cf) (i : Nat) : Nat -> List Ft
 | 0 => []
 | j + 1 => vfE c i j ++ yup c i j
noncomputable def yps (c : Cf) (i : Nat) : List Ft := ftI (yjv (za5 c.cs i) (c.cs.take i)) (whZ ypr [(i : Int)])
noncomputable def vfC (c : Cf) : Nat -> List Ft
 | 0 => vfL c c.ls.length
 | i + 1 => (vfC c i ++ yps c i) ++ vfE c i (za5 c.cs i).es.length
noncomputable def vgC (c : Cf) (i j : Nat) : List Ft := (vfC c i ++ yps c i) ++ vfE c i j
noncomputable def zi7 (c : Cf) : List Ft := if cfE c ≠ 0 then [⟨cfE c, wCfg⟩] else vfC c c.cs.length
theorem zjp (e : Int) (w : List UInt8) : (ftI e w).length <= 1 := by
 unfold ftI
 split <;> simp
theorem zrx (c : Cf) (i : Nat) : ∀ j, (vfR c i j).length <= j
 | 0 => Nat.zero_le _
 | j + 1 => by
   have := zrx c i j
   have := zjp (yae c (zb5 (za4 c.ls i).rs j) ((za4 c.ls i).rs.take j)) (whZ ytr [(i : Int), (j : Int)])
   rw [vfR, List.length_append, yuo]; omega
theorem zry (c : Cf) (i : Nat) : ∀ j, (vfE c i j).length <= j
 | 0 => Nat.zero_le _
 | j + 1 => by
   have := zry c i j
   have := zjp (yjp (zb6 (za5 c.cs i).es j) ((za5 c.cs i).es.take j)) (whZ yts [(i : Int), (j : Int)])
   rw [vfE, List.length_append, yup]; omega
theorem zsz {c : Cf} (h : zbm c = true) {i : Nat} (hi : i < c.ls.length) : (za4 c.ls i).rs.length <= 12 /\ yvr (za4 c.ls i).rs /\ (za4 c.ls i).n.length <= 300 := by
 simp only [zbm, Bool.and_eq_true, decide_eq_true_eq, List.all_eq_true] at h
 have := h.1.2 (za4 c.ls i) (by rw [za4, zak (V := lsV) hi]; exact List.getElem_mem _)
 simp only [zdb, Bool.and_eq_true, decide_eq_true_eq, List.all_eq_true] at this
 exact ⟨this.1.2, this.2, this.1.1⟩
theorem zqm {c : Cf} (h : zbm c = true) {i : Nat} (hi : i < c.cs.length) : (za5 c.cs i).es.length <= 12 /\ (za5 c.cs i).n.length <= 300 := by
 simp only [zbm, Bool.and_eq_true, decide_eq_true_eq, List.all_eq_true] at h
 have := h.2 (za5 c.cs i) (by rw [za5, zak (V := clV) hi]; exact List.getElem_mem _)
 simp only [zdv, Bool.and_eq_true, decide_eq_true_eq] at this
 exact ⟨this.2, this.1⟩
theorem zjn {c : Cf} (h : zbm c = true) : c.ls.length <= 12 /\ c.cs.length <= 12 := by
 simp only [zbm, Bool.and_eq_true, decide_eq_true_eq] at h
 exact ⟨h.1.1.1, h.1.1.2⟩
theorem zt0 {c : Cf} (h : zbm c = true) : zmp c := by
 have hn := zjn h
 simp only [zbm, Bool.and_eq_true, decide_eq_true_eq, List.all_eq_true, zdb, zdv] at h
 refine ⟨by show _ <= 1000000; omega, by show _ <= 1000000; omega, fun l hl => ?_, fun k hk => ?_⟩
 · have := (h.1.2 l hl).1.2
   show _ <= 1000000
   omega
 · have := (h.2 k hk).2
   show _ <= 1000000
   omega
theorem zkx {c : Cf} (h : zbm c = true) : ∀ i, i <= c.ls.length -> (vfL c i).length <= i * 13
 | 0, _ => Nat.zero_le _
 | i + 1, hi => by
   have h1 := zkx h i (by omega)
   have h2 := zjp (yby (za4 c.ls i) (c.ls.take i)) (whZ yka [(i : Int)])
   have h3 := zrx c i (za4 c.ls i).rs.length
   have h4 := (zsz h (show i < c.ls.length by omega)).1
   rw [vfL, List.length_append, List.length_append, ykd]; omega
theorem zzd {c : Cf} (h : zbm c = true) {i j : Nat} (hi : i < c.ls.length) (hj : j <= (za4 c.ls i).rs.length) : (vgL c i j).length <= 1000 := by
 have h1 := zkx h i (by omega)
 have h2 := zjp (yby (za4 c.ls i) (c.ls.take i)) (whZ yka [(i : Int)])
 have h3 := zrx c i j
 have h4 := (zsz h hi).1
 have h5 := (zjn h).1
 rw [vgL, List.length_append, List.length_append, ykd]; omega
theorem zky {c : Cf} (h : zbm c = true) : ∀ i, i <= c.cs.length -> (vfC c i).length <= 200 + i * 13
 | 0, _ => by
   have h1 := zkx h c.ls.length (Nat.le_refl _)
   have h5 := (zjn h).1
   rw [vfC]; omega
 | i + 1, hi => by
   have h1 := zky h i (by omega)
   have h2 := zjp (yjv (za5 c.cs i) (c.cs.take i)) (whZ ypr [(i : Int)])
   have h3 := zry c i (za5 c.cs i).es.length
   have h4 := (zqm h (show i < c.cs.length by omega)).1
   rw [vfC, List.length_append, List.length_append, yps]; omega
theorem zzf {c : Cf} (h : zbm c = true) {i j : Nat} (hi : i < c.cs.length) (hj : j <= (za5 c.cs i).es.length) : (vgC c i j).length <= 1000 := by
 have h1 := zky h i (by omega)
 have h2 := zjp (yjv (za5 c.cs i) (c.cs.take i)) (whZ ypr [(i : Int)])
 have h3 := zry c i j
 have h4 := (zqm h hi).1
 have h5 := (zjn h).2
 rw [vgC, List.length_append, List.length_append, yps]; omega
theorem ykb (c : Cf) (i : Nat) : vgL c i 0 = vfL c i ++ ykd c i := by rw [vgL, vfR, List.append_nil]
theorem zze (c : Cf) {i j : Nat} (h : j = (za4 c.ls i).rs.length) : vfL c (i + 1) = vgL c i j := by subst h; rw [vfL, vgL]
theorem zo1 (c : Cf) (i j : Nat) : vgL c i (j + 1) = vgL c i j ++ yuo c i j := by rw [vgL, vgL, vfR]; simp only [List.append_assoc]
theorem ykc (c : Cf) (i : Nat) : vgC c i 0 = vfC c i ++ yps c i := by rw [vgC, vfE, List.append_nil]
theorem zzg (c : Cf) {i j : Nat} (h : j = (za5 c.cs i).es.length) : vfC c (i + 1) = vgC c i j := by subst h; rw [vfC, vgC]
theorem zo2 (c : Cf) (i j : Nat) : vgC c i (j + 1) = vgC c i j ++ yup c i j := by rw [vgC, vgC, vfE]; simp only [List.append_assoc]
theorem zue {α : Type} {V : Vw α} (K : znu V) (l : List α) {n : Nat} {get : Nat -> Nat -> AV} (h : n <= l.length) (hg : ∀ i j, i < n -> j < V.sz -> get i j = V.cell std (zlg V l i) j) : okW V (.lst V.sz n get) /\ rdW V (.lst V.sz n get) = l.take n := by
 have hb : ∀ i, i < n -> V.ok (get i) /\ V.rd (get i) = zlg V l i := fun i hi => K.back _ _ fun j hj => hg i j hi hj
 refine ⟨⟨rfl, fun i hi => (hb i hi).1⟩, ?_⟩
 unfold rdW
 apply List.ext_getElem
 · simp; omega
 · intro i h1 h2
   have hi : i < n := by simpa using h1
   simp only [List.getElem_map, List.getElem_range, List.getElem_take]
   rw [(hb i hi).2, zak (by omega)]
end Sy
end Go.Proofs.YthppjaoicibeiaaGreatDoor
