/-Chapter 6 (digest): Sum, Text, Print. Chapter 6 (digest): the document's sum. Chapter 6 (digest): the document's Print, the example; and what stands between these and the texts behind.-/
import Derived.Test.YtogomcfgfnlclaaM5
namespace Go.Proofs.Ytogomcfgfnlclaa
namespace Sy
open Go Go.RowKit
set_option maxRecDepth 100000
set_option linter.unusedSimpArgs false
set_option linter.unusedVariables false
def ynz (p : List UInt8) (n : Nat) : List UInt8 := (p.drop (64 * n)).take 64
def zo3 (p : List UInt8) : Nat -> List Int
 | 0 => zm1
 | n + 1 => yol (zo3 p n) (ynz p n)
def yco (m : List Int) : Nat -> List UInt8
 | 0 => []
 | n + 1 => yco m n ++ zz3 (IntKind.u64.wrap (za6 m n)) 4
def ylz (p : List UInt8) : List UInt8 := yco (zo3 p (p.length / 64)) 8
def zhn (p : List UInt8) (n : Nat) : List UInt8 := p.drop (64 * n)
def yc9 (p : List UInt8) (n : Nat) : Prop := 64 * (n + 1) <= p.length
theorem zmv (m : List Int) : ∀ n, (yco m n).length = 4 * n
 | 0 => rfl
 | n + 1 => by rw [yco, List.length_append, zmv m n, zjr _ _ (by decide) (by decide)]; show 4 * n + 4 = _; omega
theorem zse (p : List UInt8) : (ylz p).length = 32 := zmv _ 8
theorem ziy (s : List UInt8) : (zzd s).length % 64 = 0 /\ 64 <= (zzd s).length /\ (zzd s).length = s.length + 9 + yoi s := by
 have : (zzd s).length = s.length + 9 + yoi s := by
   rw [zzd, List.length_append, List.length_append, List.length_append, List.length_replicate, zjr _ _ (by decide) (by decide)]
   show s.length + 1 + yoi s + 8 = _
   omega
 rw [this]
 unfold yoi
 omega
def zuc (x : AV) : List UInt8 := ylz (zzd (zni x))
def smB (L : za9) (p : List UInt8) : Nat -> St -> Option Ann := fun id st => match id with
 | 0 => some ⟨Nat, fun n => [(3, .str (L2 L zhn p n)), (4, .ref 4 0), (5, .ref 5 0)], fun n => [(5, .row 116 1 64 (fun i _ => .int .u32 (L2 L za6 zpc i))), (4, .row 114 1 8 (fun i _ => .int .u32 (L2 L za6 (L2 L zo3 p n) i)))], [2, 700005], [2], fun n => L2 L yc9 p n, fun n => L2 L (fun (p : List UInt8) (n : Nat) => p.length - n) p n⟩
 | _ => none
def smA (L : za9) (m : List Int) : Nat -> St -> Option Ann := fun id st => match id with
 | 0 => some ⟨Nat, fun n => [(23, .int .i64 (L zaa n)), (22, w8L L m)], fun n => [(6, .row 98 1 32 (fun i _ => .int .u8 (L2 L zc9 (L2 L yco m n) i)))], [2, 6], [2], fun n => L (fun n : Nat => n <= 8) n, fun n => L (fun n : Nat => 8 - n) n⟩
 | _ => none
def yd5 (L : za9) : zet := (60, fun xs => match xs with | [x] => some (L zfq x, .arr 32 (fun j => .int .u8 (L2 L zc9 (L zuc x) j))) | _ => none)
theorem zj7 {p : List UInt8} {k : Nat} (h : yc9 p k) : inC 64 (slen (zhn p k)) = true := by
 have h : 64 * (k + 1) <= p.length := h
 rw [inC, slen, zhn, List.length_drop, Bool.and_eq_true, decide_eq_true_eq, decide_eq_true_eq]
 omega
theorem yc7 {p : List UInt8} {k : Nat} (h : yc9 p k) : ((zhn p k).take (64 : Int).toNat).length = 64 := by
 have h : 64 * (k + 1) <= p.length := h
 rw [zhn, List.length_take, List.length_drop]
 show min 64 _ = _
 omega
theorem zj8 {p : List UInt8} {k k' : Nat} (h : k' = k + 1) : (zhn p k).drop (64 : Int).toNat = zhn p k' := by
 subst h
 rw [zhn, zhn, List.drop_drop]; rfl
theorem zu0 {p : List UInt8} {k k' : Nat} (hp : p.length % 64 = 0) (h : k' = k + 1) (hn : ¬ (zhn p k').length = 0) : yc9 p k' := by
 rw [zhn, List.length_drop] at hn
 show 64 * (k' + 1) <= p.length
 omega
theorem yc8 {p : List UInt8} {k k' : Nat} (hk : yc9 p k) (h : k' = k + 1) (hn : (zhn p k').length = 0) : k' = p.length / 64 := by
 have hk : 64 * (k + 1) <= p.length := hk
 rw [zhn, List.length_drop] at hn
 omega
theorem zrp {l : List Int} (h : l.length = 8) : [za6 l 0, za6 l 1, za6 l 2, za6 l 3, za6 l 4, za6 l 5, za6 l 6, za6 l 7] = l := by
 match l, h with
 | [a, b, c, d, e, f, g, h], _ => rfl
theorem yeh (h : List Int) (s : List UInt8) : (yol h s).length = 8 := by
 rw [yol, hS, hN, List.length_map, List.length_range]
theorem zey (p : List UInt8) : ∀ k, (zo3 p k).length = 8
 | 0 => rfl
 | k + 1 => yeh _ _
theorem ziu {p : List UInt8} {k k' : Nat} (h : k' = k + 1) : ypy ([za6 (zo3 p k) 0, za6 (zo3 p k) 1, za6 (zo3 p k) 2, za6 (zo3 p k) 3, za6 (zo3 p k) 4, za6 (zo3 p k) 5, za6 (zo3 p k) 6, za6 (zo3 p k) 7], (zhn p k).take (64 : Int).toNat) = zo3 p k' := by
 rw [zrp (zey p k)]
 subst h
 rfl
theorem ygc {l : List UInt8} (h : (!seq l []) = true) : ¬ l.length = 0 := by
 intro hl
 rw [List.eq_nil_of_length_eq_zero hl] at h
 exact absurd h (by decide)
theorem zxn {l : List UInt8} (h : (!seq l []) = false) : l.length = 0 := by
 have : l = [] := by
   have h2 : seq l [] = true := by simpa using h
   simpa [seq] using h2
 rw [this]; rfl
theorem ygi {q : Nat} (h : q < 8) : inC (zjb .i64 4 (zaa q)) (zaa 32) = true := by
 rw [(zpr (n := q) (by omega)).1, yjn]
 unfold zaa
 omega
theorem zzg (x : Int) : ydx (IntKind.u64.wrap x) 4 := by
 refine ⟨zgj _, ?_, by decide, by decide⟩
 rw [zx0]; omega
theorem zsr {q : Nat} {x : Int} (h : q < 8) : zyq (List.length (zz3 x 4)) (Nat.sub 32 (Int.toNat (zjb .i64 4 (zaa q)))) = true := by
 rw [(zpr (n := q) (by omega)).1, Int.toNat_natCast, zjr _ _ (by decide) (by decide), zyq, Bool.and_eq_true, zc1, zcj]
 show 0 < 32 - 4 * q /\ 4 <= 32 - 4 * q
 omega
theorem zzf {m : List Int} {q q' : Nat} (hq : q' = q + 1) (h8 : q < 8) (i : Nat) : zcd std (zdl (Nat.add 0 (Int.toNat (zjb .i64 4 (zaa q)))) (List.length (zz3 (IntKind.u64.wrap (za6 m q)) 4)) i)
   (.int .u8 (zqd (zz3 (IntKind.u64.wrap (za6 m q)) 4) (zaa (Nat.sub i (Nat.add 0 (Int.toNat (zjb .i64 4 (zaa q)))))))) (.int .u8 (zc9 (yco m q) i)) = .int .u8 (zc9 (yco m q') i) := by
 subst hq
 rw [(zpr (n := q) (by omega)).1, Int.toNat_natCast, show Nat.add 0 (4 * q) = 4 * q from Nat.zero_add _, show yco m (q + 1) = yco m q ++ zz3 (IntKind.u64.wrap (za6 m q)) 4 from rfl]
 have hl := zmv m q
 have hp := zjr (IntKind.u64.wrap (za6 m q)) 4 (by decide) (by decide)
 generalize yco m q = l at hl |-
 generalize zz3 (IntKind.u64.wrap (za6 m q)) 4 = b at hp |-
 have hp : b.length = 4 := hp
 rw [hp, zdl]
 by_cases h1 : i < 4 * q
 · rw [show zbf (4 * q) i = false by rw [Bool.eq_false_iff, ne_eq, zcj]; omega, yfx (by omega)]; rfl
 · rw [show zbf (4 * q) i = true by rw [zcj]; omega, yfw (by omega), hl]
   by_cases h2 : i < 4 * q + 4
   · rw [yqz h2]
     show AV.int .u8 (zqd b (zaa (i - 4 * q))) = _
     rw [zqd, zaa, Int.toNat_natCast]; rfl
   · rw [yr0 h2]
     show AV.int .u8 (zc9 l i) = _
     rw [zc9, zc9, List.getD_eq_getElem?_getD, List.getD_eq_getElem?_getD, List.getElem?_eq_none (by omega), List.getElem?_eq_none (by omega)]
theorem yht {n : Nat} {get : Nat -> Nat -> AV} (hp : zfq (.lst 1 n get)) : zbi Try.prog 60 [.lst 1 n get] (.arr 32 (fun j => .int .u8 (L2 std zc9 (std zuc (.lst 1 n get)) j))) := by
 obtain ⟨p, hpp⟩ : ∃ p, p = zzd (zni (.lst 1 n get)) := ⟨_, rfl⟩
 obtain ⟨m, hm⟩ : ∃ m, m = zo3 p (p.length / 64) := ⟨_, rfl⟩
 have hlen : p.length % 64 = 0 /\ 64 <= p.length := by rw [hpp]; exact ⟨(ziy _).1, (ziy _).2.1⟩
 refine zah (T := tt) (S := fun L => zdk [ztp L, zmd L, znp L, ztn L, yeg L, zve L]) (lo := fun L => smA L m) (lb := fun L => smB L p) 5 (fn := Try.f60) rfl rfl (by kernel_rfl) (by kernel_rfl) rfl zaq (zas ⟨zpe, zlb, zm0, zpa, zt3, ziv, trivial⟩) (by kernel_rfl) ?_
 obtain ⟨n0, hn0⟩ : ∃ n : Nat, n = 0 := ⟨_, rfl⟩
 intro L P' Q' hL hP hQ
 obtain ⟨q0, hq0⟩ : ∃ n : Nat, n = 0 := ⟨_, rfl⟩
 (cbv; try simp only [syT, true_and, and_true])
 refine ⟨fun k hk => ?_, ?_⟩
 · obtain ⟨k', hk'⟩ : ∃ k' : Nat, k' = k + 1 := ⟨_, rfl⟩
   (cbv; try simp only [syT, true_and, and_true])
   refine ⟨?_, ⟨⟨?_, ?_⟩, ?_, fun h1 => ⟨k', ?_⟩, fun h1 => ⟨⟨q0, ?_⟩, fun q hq => ?_⟩⟩⟩
   · subst hL; exact zj7 hk
   · subst hL; exact ⟨rfl, fun j hj => rfl⟩
   · subst hL; exact yc7 hk
   · subst hL; exact zj7 hk
   · (cbv; try simp only [syT, true_and, and_true])
     subst hL; subst hQ
     simp only [L2, std] at h1 |-
     rw [zj8 hk'] at h1 |-
     rw [ziu hk', zrp (zey _ _)]
     refine ⟨fun _ _ _ _ => trivial, fun _ _ _ _ => rfl, fun _ _ _ _ => trivial, rfl, zu0 hlen.1 hk' (ygc h1), ?_⟩
     have hk : 64 * (k + 1) <= p.length := hk
     show p.length - k' + 1 <= p.length - k
     omega
   · (cbv; try simp only [syT, true_and, and_true])
     subst hL; subst hQ
     simp only [L2, std] at h1 |-
     rw [zj8 hk'] at h1
     rw [ziu hk', zrp (zey _ _)]
     have hm : m = zo3 p k' := by rw [hm, <- yc8 hk hk' (zxn h1)]
     rw [<- hm]
     subst hq0
     refine ⟨fun _ _ _ _ => trivial, fun i j hi hj => ?_, rfl, rfl, rfl, rfl, rfl, rfl, rfl, rfl, rfl, by decide⟩
     have : j = 0 := by omega
     subst this; rfl
   · obtain ⟨q', hq'⟩ : ∃ q' : Nat, q' = q + 1 := ⟨_, rfl⟩
     have hm8 : m.length = 8 := by rw [hm]; exact zey _ _
     (cbv; try simp only [syT, true_and, and_true])
     refine ⟨fun h2 => ⟨?_, ?_, ?_, ?_, q', ?_⟩, fun h2 => ?_⟩
     · subst hL; exact zdb (zad h2)
     · subst hL; exact ygi (zad h2)
     · subst hL; exact zzg _
     · subst hL; exact zsr (zad h2)
     · (cbv; try simp only [syT, true_and, and_true])
       subst hL; subst hQ
       have h8 : q < 8 := zad h2
       have ek : (zaa q).toNat = q := Int.toNat_natCast q
       simp only [L2, L3, std, ek]
       rw [zrp hm8]
       refine ⟨fun _ _ _ _ => trivial, fun i j hi hj => zzf hq' h8 i, ?_, ?_, ?_⟩
       · exact zi2 hq' (by omega)
       · show q' <= 8
         omega
       · show 8 - q' + 1 <= 8 - q
         omega
     · subst hL; subst hQ
       have hq8 : q = 8 := by
         have : ¬ q < 8 := zd2 h2
         have : q <= 8 := hq
         omega
       subst hq8
       rw [zno]
       intro j hj
       simp only [L2, std, zuc, ylz]
       rw [<- hpp, <- hm]
 · (cbv; try simp only [syT, true_and, and_true])
   refine ⟨?_, ?_, n0, ?_⟩
   · subst hL; exact hp
   · subst hL; exact hp.2.2
   · (cbv; try simp only [syT, true_and, and_true])
     subst hL; subst hQ
     refine ⟨fun _ _ _ _ => trivial, fun i j hi hj => ?_, fun _ _ _ _ => trivial, ?_, ?_⟩
     · subst hn0; rfl
     · subst hn0; exact hpp.symm
     · subst hn0
       show 64 * (0 + 1) <= p.length
       omega
theorem yhs (hp : zfq .nils) : zbi Try.prog 60 [.nils] (.arr 32 (fun j => .int .u8 (L2 std zc9 (std zuc .nils) j))) := by
 obtain ⟨p, hpp⟩ : ∃ p, p = zzd (zni .nils) := ⟨_, rfl⟩
 obtain ⟨m, hm⟩ : ∃ m, m = zo3 p (p.length / 64) := ⟨_, rfl⟩
 have hlen : p.length % 64 = 0 /\ 64 <= p.length := by rw [hpp]; exact ⟨(ziy _).1, (ziy _).2.1⟩
 refine zah (T := tt) (S := fun L => zdk [ztp L, zmd L, znp L, ztn L, yeg L, zve L]) (lo := fun L => smA L m) (lb := fun L => smB L p) 5 (fn := Try.f60) rfl rfl (by kernel_rfl) (by kernel_rfl) rfl zaq (zas ⟨zpe, zlb, zm0, zpa, zt3, ziv, trivial⟩) (by kernel_rfl) ?_
 obtain ⟨n0, hn0⟩ : ∃ n : Nat, n = 0 := ⟨_, rfl⟩
 intro L P' Q' hL hP hQ
 obtain ⟨q0, hq0⟩ : ∃ n : Nat, n = 0 := ⟨_, rfl⟩
 (cbv; try simp only [syT, true_and, and_true])
 refine ⟨fun k hk => ?_, ?_⟩
 · obtain ⟨k', hk'⟩ : ∃ k' : Nat, k' = k + 1 := ⟨_, rfl⟩
   (cbv; try simp only [syT, true_and, and_true])
   refine ⟨?_, ⟨⟨?_, ?_⟩, ?_, fun h1 => ⟨k', ?_⟩, fun h1 => ⟨⟨q0, ?_⟩, fun q hq => ?_⟩⟩⟩
   · subst hL; exact zj7 hk
   · subst hL; exact ⟨rfl, fun j hj => rfl⟩
   · subst hL; exact yc7 hk
   · subst hL; exact zj7 hk
   · (cbv; try simp only [syT, true_and, and_true])
     subst hL; subst hQ
     simp only [L2, std] at h1 |-
     rw [zj8 hk'] at h1 |-
     rw [ziu hk', zrp (zey _ _)]
     refine ⟨fun _ _ _ _ => trivial, fun _ _ _ _ => rfl, fun _ _ _ _ => trivial, rfl, zu0 hlen.1 hk' (ygc h1), ?_⟩
     have hk : 64 * (k + 1) <= p.length := hk
     show p.length - k' + 1 <= p.length - k
     omega
   · (cbv; try simp only [syT, true_and, and_true])
     subst hL; subst hQ
     simp only [L2, std] at h1 |-
     rw [zj8 hk'] at h1
     rw [ziu hk', zrp (zey _ _)]
     have hm : m = zo3 p k' := by rw [hm, <- yc8 hk hk' (zxn h1)]
     rw [<- hm]
     subst hq0
     refine ⟨fun _ _ _ _ => trivial, fun i j hi hj => ?_, rfl, rfl, rfl, rfl, rfl, rfl, rfl, rfl, rfl, by decide⟩
     have : j = 0 := by omega
     subst this; rfl
   · obtain ⟨q', hq'⟩ : ∃ q' : Nat, q' = q + 1 := ⟨_, rfl⟩
     have hm8 : m.length = 8 := by rw [hm]; exact zey _ _
     (cbv; try simp only [syT, true_and, and_true])
     refine ⟨fun h2 => ⟨?_, ?_, ?_, ?_, q', ?_⟩, fun h2 => ?_⟩
     · subst hL; exact zdb (zad h2)
     · subst hL; exact ygi (zad h2)
     · subst hL; exact zzg _
     · subst hL; exact zsr (zad h2)
     · (cbv; try simp only [syT, true_and, and_true])
       subst hL; subst hQ
       have h8 : q < 8 := zad h2
       have ek : (zaa q).toNat = q := Int.toNat_natCast q
       simp only [L2, L3, std, ek]
       rw [zrp hm8]
       refine ⟨fun _ _ _ _ => trivial, fun i j hi hj => zzf hq' h8 i, ?_, ?_, ?_⟩
       · exact zi2 hq' (by omega)
       · show q' <= 8
         omega
       · show 8 - q' + 1 <= 8 - q
         omega
     · subst hL; subst hQ
       have hq8 : q = 8 := by
         have : ¬ q < 8 := zd2 h2
         have : q <= 8 := hq
         omega
       subst hq8
       rw [zno]
       intro j hj
       simp only [L2, std, zuc, ylz]
       rw [<- hpp, <- hm]
 · (cbv; try simp only [syT, true_and, and_true])
   refine ⟨?_, ?_, n0, ?_⟩
   · subst hL; exact hp
   · subst hL; exact Nat.zero_le _
   · (cbv; try simp only [syT, true_and, and_true])
     subst hL; subst hQ
     refine ⟨fun _ _ _ _ => trivial, fun i j hi hj => ?_, fun _ _ _ _ => trivial, ?_, ?_⟩
     · subst hn0; rfl
     · subst hn0; exact hpp.symm
     · subst hn0
       show 64 * (0 + 1) <= p.length
       omega
theorem zlt {x : AV} (hp : zfq x) : x = .nils \/ ∃ n get, x = .lst 1 n get := by
 unfold zfq at hp
 split at hp
 · exact .inr ⟨_, _, rfl⟩
 · exact .inl rfl
 · exact hp.elim
theorem zsd : zgh Try.prog (yd5 std) := by
 intro xs p r h hp
 dsimp only [yd5] at h |-
 split at h <;> cases h
 try simp only [L2, L3, std] at hp |-
 rename_i x
 rcases zlt hp with rfl | ⟨n, get, rfl⟩
 · exact yhs hp
 · exact yht hp
def zs8 (L : za9) : zet := (53, fun xs => match xs with | [x] => some (L zfq x, .str (L zuc x)) | _ => none)
theorem zsf (x : AV) : (zuc x).length = 32 := zse _
theorem zs7 (x : AV) : zb9 32 (fun i => (AV.int .u8 (zc9 (zuc x) (0 + i))).toI) = zuc x := by
 have := zwa (zuc x)
 rw [zsf] at this
 simp only [Nat.zero_add]
 exact this
theorem zo7 : zgh Try.prog (zs8 std) := by
 intro xs p r h hp
 dsimp only [zs8] at h |-
 split at h <;> cases h
 try simp only [L2, L3, std] at hp |-
 rename_i x
 have hp : zfq x := hp
 rcases zlt hp with rfl | ⟨n, get, rfl⟩
 · refine zah (T := tt) (S := fun L => zdk [yd5 L]) (lo := noA) (lb := noA) 5 (fn := Try.f53) rfl rfl (by kernel_rfl) (by kernel_rfl) rfl zaq (zas ⟨zsd, trivial⟩) (by kernel_rfl) ?_
   (intro L P1 Q1 hL hP hQ; cbv; subst hL; simp only [L2, L3, std, syT]; subst hQ)
   refine ⟨hp, trivial, ⟨show 0 + 32 <= 32 by decide, fun i _ => ⟨_, rfl⟩⟩, ?_⟩
   rw [zs7, zhk]
 · refine zah (T := tt) (S := fun L => zdk [yd5 L]) (lo := noA) (lb := noA) 5 (fn := Try.f53) rfl rfl (by kernel_rfl) (by kernel_rfl) rfl zaq (zas ⟨zsd, trivial⟩) (by kernel_rfl) ?_
   (intro L P1 Q1 hL hP hQ; cbv; subst hL; simp only [L2, L3, std, syT]; subst hQ)
   refine ⟨hp, trivial, ⟨show 0 + 32 <= 32 by decide, fun i _ => ⟨_, rfl⟩⟩, ?_⟩
   rw [zs7, zhk]
def zvf (s : List UInt8) : List UInt8 := ylz (zzd s)
theorem yd6 (s : List UInt8) : zuc (.lst 1 1 fun i _ => .str (zwm [s] (Nat.add 0 i))) = zvf s := by
 have e : zni (.lst 1 1 fun i _ => .str (zwm [s] (Nat.add 0 i))) = s := by
   show s ++ [] = s
   exact List.append_nil s
 rw [zuc, e, zvf]
theorem yf4 (s : List UInt8) (h : s.length <= 1000000) : zfq (.lst 1 1 fun i _ => .str (zwm [s] (Nat.add 0 i))) := by
 refine ⟨fun i _ => ⟨_, rfl⟩, by decide, ?_⟩
 show (s ++ []).length <= 1000000
 rw [List.append_nil]; exact h
theorem ziw (s : List UInt8) : (zvf s).length = 32 := zse _
abbrev B32 (a : Int) : BitVec IntKind.u32.bits := BitVec.ofInt IntKind.u32.bits a
def n32 (b : BitVec IntKind.u32.bits) : Int := b.toNat
theorem yoz (b : BitVec IntKind.u32.bits) : IntKind.u32.wrap b.toNat = n32 b := by
 rw [ylo, n32]
 have : b.toNat < 2 ^ 32 := b.isLt
 omega
theorem ymt (a b : Int) : bor .u32 a b = n32 (B32 a ||| B32 b) := yoz _
theorem or_comm (a b : Int) : bor .u32 a b = bor .u32 b a := by
 rw [ymt, ymt, BitVec.or_comm]
def hB (p : List UInt8) (a : Int) (n : Nat) : List Int := hS (ynz p (a.toNat / 64)) (zo3 p (a.toNat / 64)) n
theorem yo8 : (zvf [97, 98, 99]).take 4 = [186, 120, 22, 191] := by decide +kernel
theorem zwf : zbi Try.prog 55 [] (.bool true) := by
 refine zah (T := tt) (S := fun L => zdk [tru 41, zs8 L, yiv L]) (lo := noA) (lb := noA) 5 (fn := Try.f55) rfl rfl (by kernel_rfl) (by kernel_rfl) rfl zaq (zas ⟨ze3 zm9, zo7, ydz, trivial⟩) (by kernel_rfl) ?_
 (intro L P1 Q1 hL hP hQ; cbv; subst hL; simp only [L2, L3, std, syT]; subst hQ)
 have e : zuc (.lst 1 2 fun i _ => .str (zwm [[97], [98, 99]] (Nat.add 0 i))) = zvf [97, 98, 99] := rfl
 have hb : ycn (zvf [97, 98, 99]) [186, 120, 22, 191] = true := by
   show (List.take 4 (zvf [97, 98, 99]) == [186, 120, 22, 191]) = true
   rw [yo8]; rfl
 rw [e, hb]
 refine ⟨trivial, fun _ => ⟨⟨?_, by decide, by decide⟩, ⟨?_, by decide⟩, fun _ => ⟨trivial, ?_⟩, fun h => by cases h⟩, fun h => by cases h⟩
 · intro i hi
   exact ⟨_, rfl⟩
 · rw [ziw]; decide
 · rw [zdg, slen, zsf]; rfl
theorem zlg : ∀ (k n : Nat), n < 128 ^ (k + 1) -> (zdo n).length <= k + 1
 | 0, n, h => by rw [zde (by omega)]; simp
 | k + 1, n, h => by
   by_cases h1 : n < 128
   · rw [zde h1]; simp
   · rw [zg0 (by omega), List.length_cons]
     have := zlg k (n / 128) (by rw [Nat.div_lt_iff_lt_mul (by omega)]; rw [Nat.pow_succ] at h; exact h)
     omega
theorem zfz {n : Int} (h : zhw n) : (zdn n).length <= 10 := zlg 9 n.toNat (by
 have := h.2
 have := h.1
 rw [show (128 : Nat) ^ (9 + 1) = 1180591620717411303424 from by decide]
 omega)
def cb (s : List UInt8) (i : Nat) : Nat := (s.getD i 0).toNat
theorem yfv (s : List UInt8) (i : Nat) : cb s i < 256 := UInt8.toNat_lt _
def lng (s : List UInt8) : Nat -> Nat -> Nat -> Nat × Nat × Nat
 | 0, _, _ => (0, 0, 4)
 | f + 1, i, n =>
   if s.length <= i then (0, 0, 3)
   else if i = 9 /\ 1 < cb s i then (0, 0, 4)
   else if 128 <= cb s i then lng s f (i + 1) (n + cb s i % 128 * 2 ^ (7 * i))
   else if 0 < cb s i \/ i = 0 then (n + cb s i % 128 * 2 ^ (7 * i), i + 1, 0)
   else (0, 0, 4)
def zrb (s : List UInt8) : Int := (lng s 10 0 0).1
def zrc (s : List UInt8) : Int := (lng s 10 0 0).2.1
def zwn (s : List UInt8) : Int := (lng s 10 0 0).2.2
def zhb (s : List UInt8) (x : Nat × Nat) : Prop := x.1 <= s.length /\ x.1 <= 9 /\ x.2 < 2 ^ (7 * x.1) /\ lng s (10 - x.1) x.1 x.2 = lng s 10 0 0
theorem ykw {n m i : Nat} (hn : n < 2 ^ i) (hm : m * 2 ^ i < 2 ^ 64) (hn' : n < 2 ^ 64) : bor .u64 (n : Int) ((m * 2 ^ i : Nat) : Int) = ((n + m * 2 ^ i : Nat) : Int) := by
 have e : n ||| m * 2 ^ i = n + m * 2 ^ i := by
   have := Nat.shiftLeft_add_eq_or_of_lt hn m
   rw [Nat.shiftLeft_eq] at this
   rw [Nat.or_comm, <- this, Nat.add_comm]
 have hlt : n ||| m * 2 ^ i < 2 ^ 64 := Nat.or_lt_two_pow hn' hm
 unfold bor
 rw [show IntKind.u64.bits = 64 from rfl, BitVec.ofInt_natCast, BitVec.ofInt_natCast, BitVec.toNat_or, BitVec.toNat_ofNat, BitVec.toNat_ofNat, Nat.mod_eq_of_lt hn', Nat.mod_eq_of_lt hm, zx0, <- e]
 omega
theorem ym2 {c i : Nat} (h : c * 2 ^ (7 * i) < 2 ^ 64) (hi : i <= 9) : ycl .u64 (c : Int) (7 * (i : Int)) = ((c * 2 ^ (7 * i) : Nat) : Int) := by
 unfold ycl
 rw [show (7 * (i : Int)).toNat = 7 * i by omega, show IntKind.u64.bits = 64 from rfl, Nat.min_eq_left (by omega), zx0]
 have e : ((c : Int) * 2 ^ (7 * i)) = ((c * 2 ^ (7 * i) : Nat) : Int) := by simp
 rw [e]
 omega
theorem pow9 {i : Nat} (hi : i <= 9) : 2 ^ (7 * i) <= 2 ^ 63 := Nat.pow_le_pow_right (by decide) (by omega)
theorem zna {c i n : Nat} (hi : i <= 9) (hn : n < 2 ^ (7 * i)) (hc : c < 256) (h9 : ¬ (i = 9 /\ 1 < c)) : n + c % 128 * 2 ^ (7 * i) < 2 ^ (7 * (i + 1)) /\ n + c % 128 * 2 ^ (7 * i) < 2 ^ 64 /\ c % 128 * 2 ^ (7 * i) < 2 ^ 64 /\ n < 2 ^ 64 := by
 have h1 := pow9 hi
 have e : 2 ^ (7 * (i + 1)) = 128 * 2 ^ (7 * i) := by rw [show 7 * (i + 1) = 7 + 7 * i by omega, Nat.pow_add]
 have h2 : c % 128 * 2 ^ (7 * i) <= 127 * 2 ^ (7 * i) := Nat.mul_le_mul_right _ (by omega)
 rw [e]
 refine ⟨by omega, ?_⟩
 by_cases h : i = 9
 · subst h
   have : c <= 1 := by omega
   have h3 : c % 128 * 2 ^ (7 * 9) <= 1 * 2 ^ (7 * 9) := Nat.mul_le_mul_right _ (by omega)
   omega
 · have h3 : 2 ^ (7 * i) <= 2 ^ 56 := Nat.pow_le_pow_right (by decide) (by omega)
   omega
theorem yn6 {c i n : Nat} (hi : i <= 9) (hn : n < 2 ^ (7 * i)) (hc : c < 256) (h9 : ¬ (i = 9 /\ 1 < c)) : bor .u64 (n : Int) (ycl .u64 ((c : Int) % 128) (7 * (i : Int))) = ((n + c % 128 * 2 ^ (7 * i) : Nat) : Int) := by
 obtain ⟨_, _, h3, h4⟩ := zna hi hn hc h9
 rw [show ((c : Int) % 128) = ((c % 128 : Nat) : Int) by omega, ym2 h3 hi, ykw hn h3 h4]
theorem zha {s : List UInt8} {i n : Nat} (hx : zhb s (i, n)) : lng s 10 0 0 = if s.length <= i then (0, 0, 3)
   else if i = 9 /\ 1 < cb s i then (0, 0, 4)
   else if 128 <= cb s i then lng s (9 - i) (i + 1) (n + cb s i % 128 * 2 ^ (7 * i))
   else if 0 < cb s i \/ i = 0 then (n + cb s i % 128 * 2 ^ (7 * i), i + 1, 0)
   else (0, 0, 4) := by
 obtain ⟨h1, h2, h3, h4⟩ := hx
 rw [<- h4]
 simp only at h2 |-
 rw [show 10 - i = (9 - i) + 1 by omega, lng]
theorem ztg {s : List UInt8} {a b c : Nat} (h : lng s 10 0 0 = (a, b, c)) : (a : Int) = zrb s /\ (b : Int) = zrc s /\ (c : Int) = zwn s := by
 unfold zrb zrc zwn
 rw [h]
 exact ⟨rfl, rfl, rfl⟩
theorem yq3 {s : List UInt8} {i n : Nat} (hx : zhb s (i, n)) (h : (i : Int) = (s.length : Int)) : 0 = zrb s /\ 0 = zrc s /\ 3 = zwn s := by
 have := zha hx
 rw [if_pos (by omega)] at this
 exact ztg this
theorem zio (s : List UInt8) (i : Nat) : ((s.getD i 0).toNat : Int) % 18446744073709551616 = (cb s i : Int) := by
 have := yfv s i
 unfold cb at *
 omega
theorem yq2 {s : List UInt8} {i n : Nat} (hx : zhb s (i, n)) (h : ¬ (i : Int) = (s.length : Int)) (h9 : (i : Int) = 9) (hc : 1 < ((s.getD i 0).toNat : Int) % 18446744073709551616) : 0 = zrb s /\ 0 = zrc s /\ 4 = zwn s := by
 have := zha hx
 have h1 := hx.1
 rw [zio] at hc
 simp only at h1
 rw [if_neg (by omega), if_pos ⟨by omega, by omega⟩] at this
 exact ztg this
theorem yn5 {s : List UInt8} {i n : Nat} (hx : zhb s (i, n)) (h9 : ¬ (i = 9 /\ 1 < cb s i)) : bor .u64 (n : Int) (ycl .u64 ((((s.getD i 0).toNat : Int) % 18446744073709551616).tmod 128) ((7 * (i : Int) + 9223372036854775808) % 18446744073709551616 - 9223372036854775808)) = ((n + cb s i % 128 * 2 ^ (7 * i) : Nat) : Int) := by
 have h1 := hx.2.1
 have h2 := hx.2.2.1
 simp only at h1 h2
 rw [zio, Int.tmod_eq_emod_of_nonneg (by omega), show (7 * (i : Int) + 9223372036854775808) % 18446744073709551616 - 9223372036854775808 = 7 * (i : Int) by omega]
 exact yn6 h1 h2 (yfv s i) h9
theorem yq1 {s : List UInt8} {i n : Nat} (hx : zhb s (i, n)) (h : ¬ (i : Int) = (s.length : Int)) (h9 : ¬ (i = 9 /\ 1 < cb s i)) (hm : 128 <= ((s.getD i 0).toNat : Int) % 18446744073709551616) : zhb s (i + 1, n + cb s i % 128 * 2 ^ (7 * i)) /\ 10 - (i + 1) + 1 <= 10 - i /\ i <= 8 := by
 have h0 := zha hx
 have h1 := hx.2.1
 have h2 := hx.2.2.1
 have h3 := hx.1
 rw [zio] at hm
 simp only at h1 h2 h3
 rw [if_neg (by omega), if_neg h9, if_pos (by omega)] at h0
 refine ⟨⟨?_, ?_, (zna h1 h2 (yfv s i) h9).1, ?_⟩, by omega, by omega⟩
 · simp only; omega
 · simp only; omega
 · simp only
   rw [h0]; congr 1; omega
theorem yer {s : List UInt8} {i n : Nat} (hx : zhb s (i, n)) (h : ¬ (i : Int) = (s.length : Int)) (h9 : ¬ (i = 9 /\ 1 < cb s i)) (hm : ((s.getD i 0).toNat : Int) % 18446744073709551616 < 128) (hp : 0 < cb s i \/ i = 0) :
   bor .u64 (n : Int) (ycl .u64 ((((s.getD i 0).toNat : Int) % 18446744073709551616).tmod 128) ((7 * (i : Int) + 9223372036854775808) % 18446744073709551616 - 9223372036854775808)) = zrb s /\
     ((i : Int) + 1 + 9223372036854775808) % 18446744073709551616 - 9223372036854775808 = zrc s /\ 0 = zwn s := by
 have h0 := zha hx
 have h1 := hx.2.1
 have h3 := hx.1
 rw [zio] at hm
 simp only at h1 h3
 rw [if_neg (by omega), if_neg h9, if_neg (by omega), if_pos hp] at h0
 obtain ⟨e1, e2, e3⟩ := ztg h0
 rw [yn5 hx h9]
 exact ⟨e1, by rw [<- e2]; omega, e3⟩
theorem yn7 {s : List UInt8} {i n : Nat} (hx : zhb s (i, n)) (h : ¬ (i : Int) = (s.length : Int)) (h9 : ¬ (i = 9 /\ 1 < cb s i)) (hm : ((s.getD i 0).toNat : Int) % 18446744073709551616 < 128) (hp : ((s.getD i 0).toNat : Int) % 18446744073709551616 <= 0)
   (h1 : ¬ ((i : Int) + 1 + 9223372036854775808) % 18446744073709551616 - 9223372036854775808 = 1) : 0 = zrb s /\ 0 = zrc s /\ 4 = zwn s := by
 have h0 := zha hx
 have h2 := hx.2.1
 have h3 := hx.1
 rw [zio] at hm hp
 simp only at h2 h3
 rw [if_neg (by omega), if_neg h9, if_neg (by omega), if_neg (by omega)] at h0
 exact ztg h0
def lngA (L : za9) (s : List UInt8) : Nat -> St -> Option Ann := fun id st => match id with
 | 0 => some ⟨Nat × Nat, fun x => [(6, .int .i64 (L zaa (L Prod.fst x))), (5, .int .u64 (L zaa (L Prod.snd x)))], fun _ => [], [0], [],
     fun x => L2 L zhb s x, fun x => L (fun x : Nat × Nat => 10 - x.1) x⟩
 | _ => none
def yje (L : za9) : zet := (51, fun xs => match xs with | [.str s] => some (True, .tup [.int .u64 (L zrb s), .int .i64 (L zrc s), .int .i64 (L zwn s)]) | _ => none)
theorem yeq : zgh Try.prog (yje std) := by
 intro xs p r h hp
 dsimp only [yje] at h |-
 split at h <;> cases h
 try simp only [L2, L3, std] at hp |-
 rename_i s
 refine zah (T := tt) (S := noS) (lo := noA) (lb := fun L => lngA L s) 5 (fn := Try.f51) rfl rfl (by kernel_rfl) (by kernel_rfl) rfl zaq (zid _) (by kernel_rfl) ?_
 intro L P' Q' hL hP hQ
 (cbv; try simp only [syT, true_and, and_true])
 refine ⟨fun x hx => ?_, ⟨(0, 0), ?_⟩⟩
 · cbv at hx
   obtain ⟨i, n⟩ := x
   (cbv; try simp only [syT, true_and, and_true])
   obtain ⟨m, hm'⟩ : ∃ m, m = n + cb s i % 128 * 2 ^ (7 * i) := ⟨_, rfl⟩
   refine ⟨fun h => ?_, fun h => ⟨?_, fun h9 => ⟨fun hc => ?_, fun hc => ⟨?_, ?_, fun hm => ⟨(i + 1, m), ?_⟩, fun hm => ⟨fun hp => ?_, fun hp => ⟨fun h1 => ?_, fun h1 => ?_⟩⟩⟩⟩,
     fun h9 => ⟨?_, ?_, fun hm => ⟨(i + 1, m), ?_⟩, fun hm => ⟨fun hp => ?_, fun hp => ⟨fun h1 => ?_, fun h1 => ?_⟩⟩⟩⟩⟩
   · (subst hL; subst hQ; simp only [L2, L3, std] at *; try simp only [syS, reduceCtorEq, Int.reduceToNat, Int.reduceAdd, Int.reduceSub] at *)
     exact yq3 hx h
   · (subst hL; subst hQ; simp only [L2, L3, std] at *; try simp only [syS, reduceCtorEq, Int.reduceToNat, Int.reduceAdd, Int.reduceSub] at *)
     have := hx.1
     simp only at this
     omega
   · (subst hL; subst hQ; simp only [L2, L3, std] at *; try simp only [syS, reduceCtorEq, Int.reduceToNat, Int.reduceAdd, Int.reduceSub] at *)
     exact yq2 hx h h9 hc
   · (subst hL; subst hQ; simp only [L2, L3, std] at *; try simp only [syS, reduceCtorEq, Int.reduceToNat, Int.reduceAdd, Int.reduceSub] at *)
     decide
   · (subst hL; subst hQ; simp only [L2, L3, std] at *; try simp only [syS, reduceCtorEq, Int.reduceToNat, Int.reduceAdd, Int.reduceSub] at *)
     have := hx.2.1
     simp only at this
     rw [Int.emod_eq_of_lt (by omega) (by omega)]
     omega
   · (cbv; try simp only [syT, true_and, and_true])
     (subst hL; subst hQ; simp only [L2, L3, std] at *; try simp only [syS, reduceCtorEq, Int.reduceToNat, Int.reduceAdd, Int.reduceSub] at *)
     rw [zio] at hc
     exact absurd hm (by rw [zio]; omega)
   · (subst hL; subst hQ; simp only [L2, L3, std] at *; try simp only [syS, reduceCtorEq, Int.reduceToNat, Int.reduceAdd, Int.reduceSub] at *)
     rw [zio] at hc
     exact yer hx h (by omega) hm (by rw [zio] at hp; omega)
   · (subst hL; subst hQ; simp only [L2, L3, std] at *; try simp only [syS, reduceCtorEq, Int.reduceToNat, Int.reduceAdd, Int.reduceSub] at *)
     rw [zio] at hc
     have := hx.2.1
     simp only at this
     exact yer hx h (by omega) hm (by omega)
   · (subst hL; subst hQ; simp only [L2, L3, std] at *; try simp only [syS, reduceCtorEq, Int.reduceToNat, Int.reduceAdd, Int.reduceSub] at *)
     rw [zio] at hc
     exact yn7 hx h (by omega) hm hp h1
   · (subst hL; subst hQ; simp only [L2, L3, std] at *; try simp only [syS, reduceCtorEq, Int.reduceToNat, Int.reduceAdd, Int.reduceSub] at *)
     decide
   · (subst hL; subst hQ; simp only [L2, L3, std] at *; try simp only [syS, reduceCtorEq, Int.reduceToNat, Int.reduceAdd, Int.reduceSub] at *)
     have := hx.2.1
     simp only at this
     rw [Int.emod_eq_of_lt (by omega) (by omega)]
     omega
   · (cbv; try simp only [syT, true_and, and_true])
     (subst hL; subst hQ; simp only [L2, L3, std] at *; try simp only [syS, reduceCtorEq, Int.reduceToNat, Int.reduceAdd, Int.reduceSub] at *)
     obtain ⟨q1, q2, q3⟩ := yq1 hx h (by omega) hm
     rw [yn5 hx (by omega), hm']
     exact ⟨rfl, by omega, q1, q2⟩
   · (subst hL; subst hQ; simp only [L2, L3, std] at *; try simp only [syS, reduceCtorEq, Int.reduceToNat, Int.reduceAdd, Int.reduceSub] at *)
     exact yer hx h (by omega) hm (by rw [zio] at hp; omega)
   · (subst hL; subst hQ; simp only [L2, L3, std] at *; try simp only [syS, reduceCtorEq, Int.reduceToNat, Int.reduceAdd, Int.reduceSub] at *)
     have := hx.2.1
     simp only at this
     exact yer hx h (by omega) hm (by omega)
   · (subst hL; subst hQ; simp only [L2, L3, std] at *; try simp only [syS, reduceCtorEq, Int.reduceToNat, Int.reduceAdd, Int.reduceSub] at *)
     exact yn7 hx h (by omega) hm hp h1
 · (cbv; try simp only [syT, true_and, and_true])
   (subst hL; subst hQ; simp only [L2, L3, std] at *; try simp only [syS, reduceCtorEq, Int.reduceToNat, Int.reduceAdd, Int.reduceSub] at *)
   exact ⟨Nat.zero_le _, by omega, by simp, rfl⟩
theorem ynw (p : List UInt8) (c : UInt8) (r : List UInt8) : cb (p ++ c :: r) p.length = c.toNat := by
 unfold cb
 rw [List.getD_eq_getElem?_getD, List.getElem?_append_right (Nat.le_refl _), Nat.sub_self]
 rfl
theorem zp2 (r : List UInt8) : ∀ (f m n0 : Nat) (p : List UInt8), f + p.length = 10 -> m * 2 ^ (7 * p.length) < 2 ^ 64 -> (0 < m \/ p.length = 0) ->
   lng (p ++ (zdo m ++ r)) f p.length n0 = (n0 + m * 2 ^ (7 * p.length), p.length + (zdo m).length, 0)
 | 0, m, n0, p, hf, hm, h0 => by
   have : p.length = 10 := by omega
   rw [this] at hm h0
   have : 2 ^ (7 * 10) <= m * 2 ^ (7 * 10) := Nat.le_mul_of_pos_left _ (by omega)
   omega
 | f + 1, m, n0, p, hf, hm, h0 => by
   by_cases hb : 128 <= m
   · rw [zg0 hb]
     have hc : cb (p ++ (UInt8.ofNat (m % 128 + 128) :: zdo (m / 128) ++ r)) p.length = m % 128 + 128 := by
       rw [List.cons_append, ynw]
       simp; omega
     have h9 : p.length ≠ 9 := by
       intro h
       rw [h] at hm
       have : 128 * 2 ^ (7 * 9) <= m * 2 ^ (7 * 9) := Nat.mul_le_mul_right _ hb
       omega
     rw [lng, if_neg (by simp), hc, if_neg (by omega), if_pos (by omega)]
     have e : p ++ (UInt8.ofNat (m % 128 + 128) :: zdo (m / 128) ++ r) = (p ++ [UInt8.ofNat (m % 128 + 128)]) ++ (zdo (m / 128) ++ r) := by simp
     have hl : (p ++ [UInt8.ofNat (m % 128 + 128)]).length = p.length + 1 := by simp
     have hp : 2 ^ (7 * (p.length + 1)) = 128 * 2 ^ (7 * p.length) := by rw [show 7 * (p.length + 1) = 7 + 7 * p.length by omega, Nat.pow_add]
     have hd : m / 128 * (128 * 2 ^ (7 * p.length)) + m % 128 * 2 ^ (7 * p.length) = m * 2 ^ (7 * p.length) := by
       rw [<- Nat.mul_assoc, <- Nat.add_mul]
       congr 1; omega
     have ih := zp2 r f (m / 128) (n0 + (m % 128 + 128) % 128 * 2 ^ (7 * p.length)) (p ++ [UInt8.ofNat (m % 128 + 128)]) (by rw [hl]; omega) (by rw [hl, hp]; omega) (.inl (by omega))
     rw [hl] at ih
     rw [e, ih, hp, List.length_cons, show (m % 128 + 128) % 128 = m % 128 by omega]
     refine Prod.ext ?_ (Prod.ext ?_ rfl)
     · show n0 + m % 128 * 2 ^ (7 * p.length) + m / 128 * (128 * 2 ^ (7 * p.length)) = n0 + m * 2 ^ (7 * p.length)
       omega
     · show p.length + 1 + _ = p.length + (_ + 1)
       omega
   · rw [zde (by omega)]
     have hc : cb (p ++ ([UInt8.ofNat m] ++ r)) p.length = m := by
       rw [List.singleton_append, ynw]
       simp; omega
     have h9 : ¬ (p.length = 9 /\ 1 < m) := by
       rintro ⟨h, h1⟩
       rw [h] at hm
       have : 2 * 2 ^ (7 * 9) <= m * 2 ^ (7 * 9) := Nat.mul_le_mul_right _ h1
       omega
     rw [lng, if_neg (by simp), hc, if_neg h9, if_neg (by omega), if_pos h0, Nat.mod_eq_of_lt (by omega)]
     rfl
theorem ygu {m : Int} (h : zhw m) (r : List UInt8) : zrb (zdn m ++ r) = m /\ zrc (zdn m ++ r) = ((zdn m).length : Int) /\ zwn (zdn m ++ r) = 0 := by
 have h0 := h.1
 have h1 := h.2
 have := zp2 r 10 m.toNat 0 [] rfl (by simp; omega) (.inr rfl)
 simp only [List.nil_append, List.length_nil, Nat.zero_add, Nat.mul_zero, Nat.pow_zero, Nat.mul_one] at this
 unfold zrb zrc zwn zdn
 rw [this]
 refine ⟨?_, rfl, rfl⟩
 show ((m.toNat : Nat) : Int) = m
 omega
theorem zth {s : List UInt8} : ∀ (f i n : Nat), f + i = 10 -> n < 2 ^ (7 * i) -> i <= s.length -> (lng s f i n).2.1 <= 10 /\ ((lng s f i n).2.2 = 0 -> 1 <= (lng s f i n).2.1 /\ (lng s f i n).2.1 <= s.length /\ (lng s f i n).1 < 2 ^ 64)
 | 0, i, n, hf, hn, hi => by simp [lng]
 | f + 1, i, n, hf, hn, hi => by
   rw [lng]
   by_cases h1 : s.length <= i
   · rw [if_pos h1]; simp
   · rw [if_neg h1]
     by_cases h2 : i = 9 /\ 1 < cb s i
     · rw [if_pos h2]; simp
     · rw [if_neg h2]
       have hb := zna (by omega) hn (yfv s i) h2
       by_cases h3 : 128 <= cb s i
       · rw [if_pos h3]
         by_cases h9 : i = 9
         · omega
         · exact zth f (i + 1) _ (by omega) hb.1 (by omega)
       · rw [if_neg h3]
         by_cases h4 : 0 < cb s i \/ i = 0
         · rw [if_pos h4]
           exact ⟨by show i + 1 <= 10; omega, fun _ => ⟨by show 1 <= i + 1; omega, by show i + 1 <= s.length; omega, hb.2.1⟩⟩
         · rw [if_neg h4]; simp
theorem yjd {s : List UInt8} (h : zwn s = 0) : 1 <= zrc s /\ zrc s <= (s.length : Int) /\ 0 <= zrb s /\ zrb s < 18446744073709551616 := by
 have := (zth (s := s) 10 0 0 rfl (by simp) (Nat.zero_le _)).2
 unfold zwn at h
 unfold zrc zrb
 have := this (by omega)
 omega
def cpT (a b : List UInt8) : List UInt8 := if ycn a b = true then a.drop b.length else a
def ykb (L : za9) : zet := (59, fun xs => match xs with | [.str a, .str b] => some (L2 L zz9 a b, .tup [.str (L2 L cpT a b), .bool (L2 L ycn a b)]) | _ => none)
def yqp (L : za9) : zet := (50, fun xs => match xs with | [.str a, .str b] => some (L2 L zz9 a b, .tup [.str (L2 L cpT a b), .bool (L2 L ycn a b)]) | _ => none)
theorem zz8 {a b : List UInt8} (h : ycn a b = true) : b.length <= a.length := by
 have h : a.take b.length = b := by simpa [ycn] using h
 have := congrArg List.length h
 simp at this
 omega
theorem yfr : zgh Try.prog (ykb std) := by
 intro xs p r h hp
 dsimp only [ykb] at h |-
 split at h <;> cases h
 try simp only [L2, L3, std] at hp |-
 rename_i a b
 obtain ⟨p1, p2⟩ : zz9 a b := hp
 refine zah (T := tt) (S := fun L => zdk [zsm L]) (lo := noA) (lb := noA) 5 (fn := Try.f59) rfl rfl (by kernel_rfl) (by kernel_rfl) rfl zaq (zas ⟨zom, trivial⟩) (by kernel_rfl) ?_
 (intro L P1 Q1 hL hP hQ; cbv; subst hL; simp only [L2, L3, std, syT]; subst hQ)
 (simp only [syS, reduceCtorEq, Int.reduceToNat, Int.reduceAdd, Int.reduceSub])
 refine ⟨⟨p1, p2⟩, fun h => ⟨(if_neg (by rw [h]; decide)).symm, h.symm⟩, fun h => ⟨⟨by omega, ?_⟩, (if_pos h).symm, h.symm⟩⟩
 have := zz8 h
 omega
theorem yka : zgh Try.prog (yqp std) := by
 intro xs p r h hp
 dsimp only [yqp] at h |-
 split at h <;> cases h
 try simp only [L2, L3, std] at hp |-
 rename_i a b
 refine zah (T := tt) (S := fun L => zdk [ykb L]) (lo := noA) (lb := noA) 5 (fn := Try.f50) rfl rfl (by kernel_rfl) (by kernel_rfl) rfl zaq (zas ⟨yfr, trivial⟩) (by kernel_rfl) ?_
 (intro L P1 Q1 hL hP hQ; cbv; subst hL; simp only [L2, L3, std, syT]; subst hQ)
 (simp only [syS, reduceCtorEq, Int.reduceToNat, Int.reduceAdd, Int.reduceSub])
 exact hp
def slH (t : List UInt8) : List UInt8 := ycm (ycm [79, 84] (zdn (t.length : Int))) t
def slT (t : List UInt8) : List UInt8 := slH t ++ (zvf (slH t)).take 16
def slS (s t : List UInt8) : Bool := slT t == s
def opT (s : List UInt8) : List UInt8 := (s.drop (2 + (zrc (s.drop 2)).toNat)).take (zrb (s.drop 2)).toNat
def opB (s : List UInt8) : Bool := slS s (opT s)
def opV (s : List UInt8) : List UInt8 := if opB s = true then opT s else []
def opE (s : List UInt8) : Int := if opB s = true then 0 else 23
theorem zz6 (s : List UInt8) : ((zvf s).take 16).length = 16 := by rw [List.length_take, ziw]; rfl
theorem zcy (t : List UInt8) (h : t.length <= 1000000) : zhw (t.length : Int) := ⟨by omega, by omega⟩
theorem zxi (t : List UInt8) : (slH t).length = 2 + (zdn (t.length : Int)).length + t.length := by simp [slH, ycm]; omega
theorem zmj (t : List UInt8) : (slT t).length = 2 + (zdn (t.length : Int)).length + t.length + 16 := by rw [slT, List.length_append, zxi, zz6]
theorem zmk (t : List UInt8) : (slT t).drop 2 = zdn (t.length : Int) ++ (t ++ (zvf (slH t)).take 16) := by simp [slT, slH, ycm]
theorem ymu (t : List UInt8) (h : t.length <= 1000000) : opT (slT t) = t := by
 obtain ⟨e1, e2, e3⟩ := ygu (zcy t h) (t ++ (zvf (slH t)).take 16)
 rw [opT, zmk, e1, e2]
 have e : (slT t).drop (2 + ((zdn (t.length : Int)).length : Int).toNat) = t ++ (zvf (slH t)).take 16 := by
   rw [<- List.drop_drop, zmk, Int.toNat_natCast, List.drop_left]
 rw [e, Int.toNat_natCast, List.take_left]
theorem ygm (t : List UInt8) (h : t.length <= 1000000) : opB (slT t) = true := by
 rw [opB, ymu t h, slS]; simp
theorem zzj {s : List UInt8} (h : opB s = true) : slT (opT s) = s := by simpa [opB, slS] using h
theorem ygk (t : List UInt8) (h : t.length <= 1000000) : opV (slT t) = t := by rw [opV, if_pos (ygm t h), ymu t h]
theorem ygl (t : List UInt8) (h : t.length <= 1000000) : opE (slT t) = 0 := by rw [opE, if_pos (ygm t h)]
def zob (L : za9) : zet := (40, fun xs => match xs with | [.str t] => some (L2 L upto 100000 t, .str (L slT t)) | _ => none)
theorem zjk : zgh Try.prog (zob std) := by
 intro xs p r h hp
 dsimp only [zob] at h |-
 split at h <;> cases h
 try simp only [L2, L3, std] at hp |-
 rename_i t
 have hl : t.length <= 100000 := hp
 refine zah (T := tt) (S := fun L => zdk [zml L, zs8 L]) (lo := noA) (lb := noA) 5 (fn := Try.f40) rfl rfl (by kernel_rfl) (by kernel_rfl) rfl zaq (zas ⟨zlf, zo7, trivial⟩) (by kernel_rfl) ?_
 (intro L P1 Q1 hL hP hQ; cbv; subst hL; simp only [L2, L3, std, syT]; subst hQ)
 have hk := zcy t (by omega)
 have hz := zfz hk
 have e1 : IntKind.u64.wrap (slen t) = (t.length : Int) := by rw [zx0, slen]; omega
 rw [e1, yd6]
 have hs := zxi t
 have e2 : ycm (ycm [79, 84] (zdn (t.length : Int))) t = slH t := rfl
 rw [e2]
 refine ⟨hk, ?_, ?_, yf4 _ (by omega), ?_, ?_, ?_⟩
 · rw [znv, List.length_cons, List.length_cons, List.length_nil]; omega
 · rw [znv, ycm, List.length_append, List.length_cons, List.length_cons, List.length_nil]; omega
 · rw [yjn, slen, ziw]; decide
 · rw [znv, List.length_take, ziw]; omega
 · rw [zhk]; rfl
def zsv (L : za9) : zet := (39, fun xs => match xs with | [.str s] => some (L2 L upto 100000 s, .tup [.str (L opV s), .int .i64 (L opE s)]) | _ => none)
theorem ygj (s : List UInt8) : (opT s).length <= s.length := by
 rw [opT, List.length_take, List.length_drop]; omega
theorem zr4 {s : List UInt8} (h : opB s = true) (hs : s.length <= 1000000) : ycn s [79, 84] = true /\ zwn (s.drop 2) = 0 /\ zrb (s.drop 2) = ((opT s).length : Int) /\ zrc (s.drop 2) = ((zdn ((opT s).length : Int)).length : Int) /\ s.length = 2 + (zdn ((opT s).length : Int)).length + (opT s).length + 16 := by
 have hl := ygj s
 obtain ⟨e1, e2, e3⟩ := ygu (zcy (opT s) (by omega)) (opT s ++ (zvf (slH (opT s))).take 16)
 rw [<- zmk, zzj h] at e1 e2 e3
 have hn := zmj (opT s)
 rw [zzj h] at hn
 refine ⟨?_, e3, e1, e2, hn⟩
 rw [<- zzj h]
 rfl
theorem ymv {s : List UInt8} (h : ¬ slT (opT s) = s) : opB s = false := by
 unfold opB slS
 simpa using h
theorem ye3 {s : List UInt8} (h : opB s = false) : [] = opV s /\ 23 = opE s := by
 rw [opV, opE, if_neg (by rw [h]; decide), if_neg (by rw [h]; decide)]
 exact ⟨rfl, rfl⟩
theorem zot : zgh Try.prog (zsv std) := by
 intro xs p r h hp
 dsimp only [zsv] at h |-
 split at h <;> cases h
 try simp only [L2, L3, std] at hp |-
 rename_i s
 have hl : s.length <= 100000 := hp
 refine zah (T := tt) (S := fun L => zdk [yqp L, yje L, zob L]) (lo := noA) (lb := noA) 5 (fn := Try.f39) rfl rfl (by kernel_rfl) (by kernel_rfl) rfl zaq (zas ⟨yka, yeq, zjk, trivial⟩) (by kernel_rfl) ?_
 (intro L P1 Q1 hL hP hQ; cbv; subst hL; simp only [L2, L3, std, syT]; subst hQ)
 (simp only [syS, reduceCtorEq, Int.reduceToNat, Int.reduceAdd, Int.reduceSub])
 refine ⟨⟨by omega, by decide⟩, fun hpre => ye3 (by
   cases h : opB s with
   | false => rfl
   | true => rw [(zr4 h (by omega)).1] at hpre; cases hpre), fun hpre => ?_⟩
 have hr : cpT s [79, 84] = s.drop 2 := if_pos hpre
 have hlen := zz8 hpre
 have hlen : 2 <= s.length := hlen
 rw [hr]
 have hdl : (s.drop 2).length = s.length - 2 := List.length_drop
 refine ⟨fun he => ye3 (by
   cases h : opB s with
   | false => rfl
   | true => exact absurd (zr4 h (by omega)).2.1 he), fun he => ⟨fun hn => ye3 (by
   cases h : opB s with
   | false => rfl
   | true =>
     obtain ⟨_, _, h1, h2, h3⟩ := zr4 h (by omega)
     exfalso
     apply hn
     rw [h1, h2, hdl]
     omega), fun hn => ?_⟩⟩
 obtain ⟨k1, k2, n1, n2⟩ := yjd he
 rw [hdl] at hn k2 |-
 generalize hK : zrc (s.drop 2) = K at hn k1 k2 |-
 generalize hN : zrb (s.drop 2) = N at hn n1 n2 |-
 have eN : (K + ((N + 9223372036854775808) % 18446744073709551616 - 9223372036854775808) + 9223372036854775808) % 18446744073709551616 - 9223372036854775808 = K + N := by omega
 rw [eN]
 have et : List.drop K.toNat (List.take (K + N).toNat (s.drop 2)) = opT s := by
   rw [opT, hK, hN, <- List.drop_drop, List.drop_take]
   congr 1; omega
 rw [et]
 have := ygj s
 refine ⟨⟨by omega, by omega, by omega⟩, (show (opT s).length <= 100000 by omega), fun h => ?_, fun h => ye3 (ymv h)⟩
 have hb : opB s = true := by rw [opB, slS, h]; simp
 rw [opV, opE, if_pos hb, if_pos hb]
 exact ⟨rfl, rfl⟩
def yk0 : zet := (44, fun xs => match xs with | [] => some (True, .int .i64 4) | _ => none)
theorem yfd : zgh Try.prog yk0 := by
 intro xs p r h hp
 dsimp only [yk0] at h |-
 split at h <;> cases h
 try simp only [L2, L3, std] at hp |-
 refine zah (T := tt) (S := noS) (lo := noA) (lb := noA) 5 (fn := Try.f44) rfl rfl (by kernel_rfl) (by kernel_rfl) rfl zaq (zid _) (by kernel_rfl) ?_
 (intro L P1 Q1 hL hP hQ; cbv; subst hL; simp only [L2, L3, std, syT]; subst hQ)
 (simp only [syS, reduceCtorEq, Int.reduceToNat, Int.reduceAdd, Int.reduceSub])
theorem zwl : zbi Try.prog 42 [] (.bool true) := by
 refine zah (T := tt) (S := fun L => zdk [tru 55]) (lo := noA) (lb := noA) 5 (fn := Try.f42) rfl rfl (by kernel_rfl) (by kernel_rfl) rfl zaq (zas ⟨ze3 zwf, trivial⟩) (by kernel_rfl) ?_
 (intro L P1 Q1 hL hP hQ; cbv; subst hL; simp only [L2, L3, std, syT]; subst hQ)
 (simp only [syS, reduceCtorEq, Int.reduceToNat, Int.reduceAdd, Int.reduceSub])
theorem zwk : zbi Try.prog 43 [] (.bool true) := by
 refine zah (T := tt) (S := fun L => zdk [tru 7]) (lo := noA) (lb := noA) 5 (fn := Try.f43) rfl rfl (by kernel_rfl) (by kernel_rfl) rfl zaq (zas ⟨ze3 zwe, trivial⟩) (by kernel_rfl) ?_
 (intro L P1 Q1 hL hP hQ; cbv; subst hL; simp only [L2, L3, std, syT]; subst hQ)
 (simp only [syS, reduceCtorEq, Int.reduceToNat, Int.reduceAdd, Int.reduceSub])
theorem zwd : zbi Try.prog 22 [] (.bool true) := by
 refine zah (T := tt) (S := fun L => zdk [zob L, zsv L, yk0, tru 41, tru 42, tru 43]) (lo := noA) (lb := noA) 5 (fn := Try.f22) rfl rfl (by kernel_rfl) (by kernel_rfl) rfl zaq (zas ⟨zjk, zot, yfd, ze3 zm9, ze3 zwl, ze3 zwk, trivial⟩) (by kernel_rfl) ?_
 (intro L P1 Q1 hL hP hQ; cbv; subst hL; simp only [L2, L3, std, syT]; subst hQ)
 have e1 : opV (slT [97]) = [97] := ygk [97] (by decide)
 have e2 : opE (slT [97]) = 0 := ygl [97] (by decide)
 have h1 : upto 100000 [97] := by show [97].length <= 100000; decide
 have hk := zfz (zcy [97] (by decide))
 have h2 : upto 100000 (slT [97]) := by
   have := zmj [97]
   show (slT [97]).length <= 100000
   have e : [(97 : UInt8)].length = 1 := rfl
   omega
 rw [e1, e2]
 have q1 : ieq 0 0 = true := by decide
 have q2 : seq [97] [97] = true := by decide
 have q3 : ieq 4 4 = true := by decide
 simp [h1, h2, q1, q2, q3, zdg]
def sv1 (x : Dk) (sp t : List UInt8) : Dk := zfe x sp (slT t)
def yg9 (x : Dk) (sp t : List UInt8) : Int := zs3 x sp (slT t)
def sv2 (x : Dk) (sp t : List UInt8) : Dk := zcu (sv1 x sp t) sp
def yhr (x : Dk) (sp t : List UInt8) : Int := zo9 (sv1 x sp t) sp
def sv3 (x : Dk) (nm sp t : List UInt8) : Dk := zlk (sv2 x sp t) sp nm
def yhq (x : Dk) (nm sp t : List UInt8) : Int := zqy (sv2 x sp t) sp nm
def zjm (x : Dk) (nm sp t : List UInt8) : Dk :=
 if 16384 < t.length then x else if nm = sp then x else if yg9 x sp t ≠ 0 then sv1 x sp t else if yhr x sp t ≠ 0 then sv2 x sp t else if yhq x nm sp t ≠ 0 then sv3 x nm sp t else zge (sv3 x nm sp t)
def zl0 (x : Dk) (nm sp t : List UInt8) : Int :=
 if 16384 < t.length then 5 else if nm = sp then 2 else if yg9 x sp t ≠ 0 then yg9 x sp t else if yhr x sp t ≠ 0 then yhr x sp t else if yhq x nm sp t ≠ 0 then yhq x nm sp t else zmp (sv3 x nm sp t)
theorem zyr (x : Dk) (fr to_ : List UInt8) : zcb (zlk x fr to_).nd = zcb x.nd := by
 obtain ⟨e1, e2, e3, e4, e5⟩ := zc6 x
 unfold zlk zcb
 split
 · split
   · show (zan x).nd.length = _
     rw [e1]
   · rw [e1]
 · rfl
theorem ycu (x : Dk) (s t : List UInt8) : (zfe x s t).pend.length <= x.pend.length + 1 := by
 obtain ⟨e1, e2, e3, e4, e5⟩ := zc6 x
 unfold zfe
 split
 · split
   · split
     · show (zan x).pend.length <= _
       rw [e4]; exact Nat.le_succ _
     · show ((zan x).pend ++ [_]).length <= _
       rw [e4, List.length_append]; exact Nat.le_refl _
   · rw [e4]; exact Nat.le_succ _
 · exact Nat.le_succ _
theorem yd3 (x : Dk) (s : List UInt8) : (zcu x s).pend = x.pend := by
 obtain ⟨e1, e2, e3, e4, e5⟩ := zc6 x
 unfold zcu
 split
 · split
   · exact e4
   · exact e4
 · rfl
theorem yi5 {t : List UInt8} (h : t.length <= 16384) : (slT t).length <= 17000 := by
 have := zmj t
 have hk := zfz (zcy t (by omega))
 omega
def ygg (x : Dk) : Prop := x.pend.length <= 900000
def yig (L : za9) : zes := (23, fun raw ob => match raw with
 | [.ref id 0, .str nm, .str sp, .str t] => match rdS L ob id with
   | some x => some ⟨[.ref 500000 0, .str nm, .str sp, .str t], dpO L x, L ygg x /\ L zbk nm /\ L zbk sp, .int .i64 (L (L3 L zl0 x nm sp) t), dpX L 500000 500001 12 13 (L (L3 L zjm x nm sp) t)⟩
   | _ => none
 | _ => none)
theorem ym9 (x : Dk) (nm sp t : List UInt8) (hp : ygg x) (hn : zbk nm) (hs : zbk sp) : zay Try.prog 23 [.ref 500000 0, .str nm, .str sp, .str t] (dpO std x) (.int .i64 (zl0 x nm sp t)) (dpX std 500000 500001 12 13 (zjm x nm sp t)) := by
 refine zai (T := tt) (S := fun L => zb5 [zob L] [yhe L, zxb L, yis L, zxr L]) (lo := noA) (lb := noA) 8 (fn := Try.f23) (xs := fun L => [.ref 500000 0, .str nm, .str sp, .str t]) (rts := fun L => [.int .i64 (L (L3 L zl0 x nm sp) t)]) (O := fun L => dpO L x) (O1 := fun L => dpX L 500000 500001 12 13 (L (L3 L zjm x nm sp) t))
   rfl rfl (by kernel_rfl) (by kernel_rfl) (by kernel_rfl) zaq (za5 ⟨zjk, trivial⟩ ⟨zwt, zub, zyx, zui, trivial⟩) (by kernel_rfl) ?_
 intro L P' Q' hL hP hQ
 have hE : ∀ x : Dk, L zqf ⟨L Dk.room x, L Dk.names x, L Dk.sure x, L zjt (L Dk.pend x), fun q => tnC L (L (L zee (L Dk.pend x)) q), L zcb (L Dk.nd x), fun k _ => ndC L (L (L zae (L Dk.nd x)) k), L Dk.steps x, L Dk.fuse x, L Dk.down x⟩ = x := by subst hL; exact zjq
 (cbv; try simp only [syT, true_and, and_true])
 simp only [hE, true_and]
 subst hL
 simp only [std]
 have l1 : zcb x.nd <= zcb (zfe x sp (slT t)).nd := zs2 _ _ _
 have l2 : zcb (zfe x sp (slT t)).nd <= zcb (zcu (zfe x sp (slT t)) sp).nd := Nat.le_of_eq (zsc _ _).symm
 have l3 : zcb (zcu (zfe x sp (slT t)) sp).nd <= zcb (zlk (zcu (zfe x sp (slT t)) sp) sp nm).nd := Nat.le_of_eq (zyr _ _ _).symm
 have l4 : zcb (zlk (zcu (zfe x sp (slT t)) sp) sp nm).nd <= zcb (zge (zlk (zcu (zfe x sp (slT t)) sp) sp nm)).nd := Nat.le_of_eq (zsi _).symm
 have l12 := Nat.le_trans l1 l2
 have l13 := Nat.le_trans l12 l3
 have l14 := Nat.le_trans l13 l4
 have l23 := Nat.le_trans l2 l3
 have l24 := Nat.le_trans l23 l4
 have l34 := Nat.le_trans l3 l4
 have tr : ∀ {n : Nat} {q : Nat} {p : Prop}, p -> ((∀ (k : Nat), k < n -> True) /\ ∀ (k i j : Nat), k < n -> i < 1 -> j < 2 -> True) /\ (∀ (i j : Nat), i < q -> j < 4 -> True) /\ p := fun h => ⟨⟨fun _ _ => trivial, fun _ _ _ _ _ _ => trivial⟩, fun _ _ _ _ => trivial, h⟩
 refine ⟨fun h1 => ?_, fun h1 => ⟨fun h2 => ?_, fun h2 => ?_⟩⟩
 · have h1 : 16384 < t.length := by
     rw [zgq] at h1; unfold slen at h1; omega
   have hD : zjm x nm sp t = x := by
     unfold zjm
     simp [h1]
   have hZ : zl0 x nm sp t = 5 := by
     unfold zl0
     first
       | (simp [h1]; done)
       | (simp [h1]; rfl)
   rw [hD, hZ]
   repeat' (first | exact Nat.le_refl _ | exact l1 | exact l2 | exact l3 | exact l4 | exact l12 | exact l13 | exact l14 | exact l23 | exact l24 | exact l34 | exact trivial | exact rfl | refine And.intro ?_ ?_ | intro _)
 · have h1 : ¬ 16384 < t.length := by
     rw [znm] at h1; unfold slen at h1; omega
   rw [ym6] at h2
   have hD : zjm x nm sp t = x := by
     unfold zjm
     simp [h1, h2]
   have hZ : zl0 x nm sp t = 2 := by
     unfold zl0
     first
       | (simp [h1, h2]; done)
       | (simp [h1, h2]; rfl)
   rw [hD, hZ]
   repeat' (first | exact Nat.le_refl _ | exact l1 | exact l2 | exact l3 | exact l4 | exact l12 | exact l13 | exact l14 | exact l23 | exact l24 | exact l34 | exact trivial | exact rfl | refine And.intro ?_ ?_ | intro _)
 · have h1 : ¬ 16384 < t.length := by
     rw [znm] at h1; unfold slen at h1; omega
   rw [ym7] at h2
   have hb := yi5 (t := t) (by omega)
   have hp : x.pend.length <= 900000 := hp
   have hp2 : (zcu (zfe x sp (slT t)) sp).pend.length <= 1000000 := by
     rw [yd3]
     have := ycu x sp (slT t)
     omega
   refine ⟨?_, l1, tr ⟨⟨?_, hs, ?_⟩, fun h3 => ?_, fun h3 => ⟨l2, tr ⟨fun h4 => ?_, fun h4 => ⟨l3, tr ⟨⟨hp2, hn⟩, fun h5 => ?_, fun h5 => ⟨l4, tr ?_⟩⟩⟩⟩⟩⟩⟩
   · show t.length <= 100000; omega
   · show x.pend.length <= 1000000; omega
   · show (slT t).length <= 100000; omega
   · have h3 : yg9 x sp t ≠ 0 := by rw [yar] at h3; exact h3
     have hD : zjm x nm sp t = zfe x sp (slT t) := by
       unfold zjm
       simp [h1, h2, h3, sv1]
     have hZ : zl0 x nm sp t = zs3 x sp (slT t) := by
       unfold zl0
       first
         | (simp [h1, h2, h3, sv1]; done)
         | (simp [h1, h2, h3, sv1]; rfl)
     rw [hD, hZ]
     repeat' (first | exact Nat.le_refl _ | exact l1 | exact l2 | exact l3 | exact l4 | exact l12 | exact l13 | exact l14 | exact l23 | exact l24 | exact l34 | exact trivial | exact rfl | refine And.intro ?_ ?_ | intro _)
   · have h3 : yg9 x sp t = 0 := by rw [zpi] at h3; exact h3
     have h4 : yhr x sp t ≠ 0 := by rw [yar] at h4; exact h4
     have hD : zjm x nm sp t = zcu (zfe x sp (slT t)) sp := by
       unfold zjm
       simp [h1, h2, h3, h4, sv2, sv1]
     have hZ : zl0 x nm sp t = zo9 (zfe x sp (slT t)) sp := by
       unfold zl0
       first
         | (simp [h1, h2, h3, h4, sv2, sv1]; done)
         | (simp [h1, h2, h3, h4, sv2, sv1]; rfl)
     rw [hD, hZ]
     repeat' (first | exact Nat.le_refl _ | exact l1 | exact l2 | exact l3 | exact l4 | exact l12 | exact l13 | exact l14 | exact l23 | exact l24 | exact l34 | exact trivial | exact rfl | refine And.intro ?_ ?_ | intro _)
   · have h3 : yg9 x sp t = 0 := by rw [zpi] at h3; exact h3
     have h4 : yhr x sp t = 0 := by rw [zpi] at h4; exact h4
     have h5 : yhq x nm sp t ≠ 0 := by rw [yar] at h5; exact h5
     have hD : zjm x nm sp t = zlk (zcu (zfe x sp (slT t)) sp) sp nm := by
       unfold zjm
       simp [h1, h2, h3, h4, h5, sv3, sv2, sv1]
     have hZ : zl0 x nm sp t = zqy (zcu (zfe x sp (slT t)) sp) sp nm := by
       unfold zl0
       first
         | (simp [h1, h2, h3, h4, h5, sv3, sv2, sv1]; done)
         | (simp [h1, h2, h3, h4, h5, sv3, sv2, sv1]; rfl)
     rw [hD, hZ]
     repeat' (first | exact Nat.le_refl _ | exact l1 | exact l2 | exact l3 | exact l4 | exact l12 | exact l13 | exact l14 | exact l23 | exact l24 | exact l34 | exact trivial | exact rfl | refine And.intro ?_ ?_ | intro _)
   · have h3 : yg9 x sp t = 0 := by rw [zpi] at h3; exact h3
     have h4 : yhr x sp t = 0 := by rw [zpi] at h4; exact h4
     have h5 : yhq x nm sp t = 0 := by rw [zpi] at h5; exact h5
     have hD : zjm x nm sp t = zge (zlk (zcu (zfe x sp (slT t)) sp) sp nm) := by
       unfold zjm
       simp [h1, h2, h3, h4, h5, sv3, sv2, sv1]
     have hZ : zl0 x nm sp t = zmp (zlk (zcu (zfe x sp (slT t)) sp) sp nm) := by
       unfold zl0
       first
         | (simp [h1, h2, h3, h4, h5, sv3, sv2, sv1]; done)
         | (simp [h1, h2, h3, h4, h5, sv3, sv2, sv1]; rfl)
     rw [hD, hZ]
     repeat' (first | exact Nat.le_refl _ | exact l1 | exact l2 | exact l3 | exact l4 | exact l12 | exact l13 | exact l14 | exact l23 | exact l24 | exact l34 | exact trivial | exact rfl | refine And.intro ?_ ?_ | intro _)
theorem zym : zc4 Try.prog (yig std) := by
 intro raw ob T hT hp
 unfold yig at hT
 simp only at hT
 repeat' split at hT
 all_goals first | (cases hT; done) | (cases hT; exact ym9 _ _ _ _ hp.1 hp.2.1 hp.2.2)
def yaf (x : Dk) (s : List UInt8) : Int := if thE x s = 0 then opE (zhz x s) else thE x s
def ygt (x : Dk) (s : List UInt8) : List UInt8 := if thE x s = 0 then opV (zhz x s) else []
def yjc (x : Dk) (s : List UInt8) : Prop := (zhz x s).length <= 100000
def yjb (L : za9) : zes := (25, fun raw ob => match raw with
 | [.ref id 0, .str s] => match rdS L ob id with
   | some x => some ⟨[.ref 500000 0, .str s], dpO L x, L2 L yjc x s, .tup [.str (L2 L ygt x s), .int .i64 (L2 L yaf x s)], dpO L x⟩
   | _ => none
 | _ => none)
theorem yn4 (x : Dk) (s : List UInt8) (hp : yjc x s) : zay Try.prog 25 [.ref 500000 0, .str s] (dpO std x) (.tup [.str (ygt x s), .int .i64 (yaf x s)]) (dpO std x) := by
 refine zai (T := tt) (S := fun L => zb5 [zsv L] [zz1 L]) (lo := noA) (lb := noA) 8 (fn := Try.f25) (xs := fun L => [.ref 500000 0, .str s]) (rts := fun L => [.str (L2 L ygt x s), .int .i64 (L2 L yaf x s)]) (O := fun L => dpO L x) (O1 := fun L => dpO L x)
   rfl rfl (by kernel_rfl) (by kernel_rfl) (by kernel_rfl) zaq (za5 ⟨zot, trivial⟩ ⟨zvd, trivial⟩) (by kernel_rfl) ?_
 intro L P' Q' hL hP hQ
 have hE : ∀ x : Dk, L zqf ⟨L Dk.room x, L Dk.names x, L Dk.sure x, L zjt (L Dk.pend x), fun q => tnC L (L (L zee (L Dk.pend x)) q), L zcb (L Dk.nd x), fun k _ => ndC L (L (L zae (L Dk.nd x)) k), L Dk.steps x, L Dk.fuse x, L Dk.down x⟩ = x := by subst hL; exact zjq
 (cbv; try simp only [syT, true_and, and_true])
 simp only [hE, true_and]
 subst hL
 simp only [std]
 refine ⟨Nat.le_refl _, ⟨fun _ _ => trivial, fun _ _ _ _ _ _ => trivial⟩, fun _ _ _ _ => trivial, fun h => ?_, fun h => ⟨hp, ?_⟩⟩
 · have h : ¬ thE x s = 0 := by rw [yar] at h; exact h
   have h1 : yaf x s = thE x s := if_neg h
   have h2 : ygt x s = [] := if_neg h
   rw [h1, h2]
   repeat' (first | exact Nat.le_refl _ | exact trivial | exact rfl | refine And.intro ?_ ?_ | intro _)
 · have h : thE x s = 0 := by rw [zpi] at h; exact h
   have h1 : yaf x s = opE (zhz x s) := if_pos h
   have h2 : ygt x s = opV (zhz x s) := if_pos h
   rw [h1, h2]
   repeat' (first | exact Nat.le_refl _ | exact trivial | exact rfl | refine And.intro ?_ ?_ | intro _)
theorem yae : zc4 Try.prog (yjb std) := by
 intro raw ob T hT hp
 unfold yjb at hT
 simp only at hT
 repeat' split at hT
 all_goals first | (cases hT; done) | (cases hT; exact yn4 _ _ hp)
def xtU (b : Int) (i q : Nat) : Int := if q < i then b else 0
def xtA (n b : Int) : List UInt8 := zb9 (zo2 n) (fun _ => b)
def xtL (L : za9) (n b : Int) : Nat -> St -> Option Ann := fun id st => match id with
 | 0 => some ⟨Nat, fun i => [(11, .int .i64 (L zaa i))], fun i => [(8, .row 5 1 (L zo2 n) (fun q _ => .int .u8 (L3 L xtU b i q)))], [1, 3, 10], [1],
     fun i => L2 L Nat.le i (L zo2 n), fun i => L2 L Nat.sub (L zo2 n) i⟩
 | _ => none
def zqj (L : za9) : zet := (24, fun xs => match xs with
 | [.agg [.str a, .str t, .int .u16 n, .int .u8 b, .bool c, .int .i8 f]] => some (L yod n, .str (L2 L xtA n b))
 | _ => none)
theorem zu8 : zgh Try.prog (zqj std) := by
 intro xs p r h hp
 dsimp only [zqj] at h |-
 split at h <;> cases h
 try simp only [L2, L3, std] at hp |-
 rename_i a t n b c f
 have hu : 0 <= n /\ n < 65536 := hp
 refine zah (T := tt) (S := noS) (lo := fun L => xtL L n b) (lb := noA) 5 (fn := Try.f24) rfl rfl (by kernel_rfl) (by kernel_rfl) rfl zaq (zid _) (by kernel_rfl) ?_
 intro L P' Q' hL hP hQ
 (cbv; try simp only [syT, true_and, and_true])
 have hN : (n.tmod 3000).toNat = n.tmod 3000 /\ zo2 n < 3000 := by
   have : n.tmod 3000 = ((n.toNat % 3000 : Nat) : Int) := by
     obtain ⟨k, rfl⟩ : ∃ k : Nat, n = k := ⟨n.toNat, by omega⟩
     exact (Int.ofNat_tmod k 3000).symm
   unfold zo2
   omega
 refine ⟨by subst hL; rfl, ?_, ⟨0, ?_⟩, fun i hi => ?_⟩
 · subst hL
   show yla 1 (n.tmod 3000) (n.tmod 3000) = true
   rw [ya3]
   unfold zo2 at hN
   omega
 · (cbv; try simp only [syT, true_and, and_true])
   subst hL
   refine ⟨⟨rfl, fun q j hq hj => ?_⟩, rfl, Nat.zero_le _⟩
   obtain rfl : j = 0 := by omega
   rfl
 · (cbv; try simp only [syT, true_and, and_true])
   have hT : L Int.toNat (L (L Int.tmod n) 3000) = zo2 n := by subst hL; rfl
   refine ⟨fun h1 => ⟨?_, i + 1, ?_⟩, fun h1 => ⟨⟨?_, fun q _ => ⟨_, rfl⟩⟩, ?_⟩⟩
   · subst hL; exact zph h1
   · (cbv; try simp only [syT, true_and, and_true])
     rw [hT] at h1
     subst hL
     have hlt : i < zo2 n := zi6 h1
     refine ⟨fun q j hq hj => ?_, zgw i (by omega), hlt, zmg hlt⟩
     refine (yms _ .u8 _ (xtU b i) q j hj).trans (congrArg (AV.int .u8) ?_)
     show (if q = 0 + (zaa i).toNat then b else xtU b i q) = xtU b (i + 1) q
     rw [zd8, Nat.zero_add]
     unfold xtU
     by_cases e : q = i
     · subst e
       rw [if_pos rfl, if_pos (by omega)]
     · rw [if_neg e]
       by_cases e2 : q < i
       · rw [if_pos e2, if_pos (by omega)]
       · rw [if_neg e2, if_neg (by omega)]
   · rw [hT]; subst hL
     show 0 + zo2 n <= zo2 n
     omega
   · rw [hT] at h1 |-
     subst hL; subst hQ
     have h1 : ilt (zaa i) (zaa (zo2 n)) = false := h1
     have hi : i <= zo2 n := hi
     have h1 := zpk h1
     rw [zhk]
     show zb9 (zo2 n) (fun q => xtU b i (0 + q)) = zb9 (zo2 n) (fun _ => b)
     unfold zb9
     refine List.map_congr_left fun q hq => ?_
     have hq : q < zo2 n := by simpa using hq
     show UInt8.ofNat (xtU b i (0 + q)).toNat = UInt8.ofNat b.toNat
     unfold xtU
     rw [if_pos (by omega)]
theorem yhb {n b : Int} (h : yod n) : (xtA n b).length < 3000 := by
 have := yhk h
 simpa [xtA, zb9] using this
structure Wc where
 a : List UInt8
 t : List UInt8
 n : Int
 b : Int
 c : Bool
 f : Int
def wcC (L : za9) (x : Wc) : Nat -> AV
 | 0 => .str (L Wc.a x)
 | 1 => .str (L Wc.t x)
 | 2 => .int .u16 (L Wc.n x)
 | 3 => .int .u8 (L Wc.b x)
 | 4 => .bool (L Wc.c x)
 | _ => .int .i8 (L Wc.f x)
def zff (l : List Wc) (i : Nat) : Wc := l.getD i ⟨[], [], 0, 0, false, 0⟩
def yai (l : List Wc) : Nat := l.length
def yg8 (x : Wc) : Prop := yod x.n /\ (0 <= x.b /\ x.b < 256)
theorem opens_Wc {H : Type} {enc : TypeId × Value -> H} {W : World} : zgu enc Try.prog W 52 Wc 6 (wcC std) yg8 :=
 (zor Try.underlying52 (by kernel_rfl) (zd0 rfl (zos Try.underlying9 (by kernel_rfl)) (zd0 rfl (zos Try.underlying9 (by kernel_rfl)) (zd0 rfl (zjx Try.underlying30 (by kernel_rfl)) (zd0 rfl (zjx Try.underlying5 (by kernel_rfl)) (zd0 rfl (zvh Try.underlying4 (by kernel_rfl)) (zd0 rfl (zjx Try.underlying50 (by kernel_rfl)) (zvi _)))))))).map
   (fun y => ⟨y.1, y.2.1, y.2.2.1, y.2.2.2.1, y.2.2.2.2.1, y.2.2.2.2.2.1⟩)
   (fun y j hj => by match j, hj with | 0, _ => rfl | 1, _ => rfl | 2, _ => rfl | 3, _ => rfl | 4, _ => rfl | 5, _ => rfl)
   (fun y h => ⟨zwb h.2.2.1, by have := bounds_u8 h.2.2.2.1; exact ⟨this.1, by show y.2.2.2.1 < 256; omega⟩⟩)
theorem avWc (l : List Wc) (i j : Nat) (h : i < l.length) : avL (wcC std) l i j = wcC std (zff l i) j := by
 rw [avL, zff, List.getD_eq_getElem?_getD, List.getElem?_eq_getElem h]; rfl
theorem zzn {l : List Wc} {i : Nat} (h : i < l.length) : zff l i ∈ l := by
 rw [zff, List.getD_eq_getElem?_getD, List.getElem?_eq_getElem h]
 exact List.getElem_mem h
def nmSp : List UInt8 := [115, 112, 97, 114, 101]
def nmO (q : Nat) : List UInt8 := zwm [[97], [98], [99]] q
structure Fo where
 x : Dk
 last : Nat -> List UInt8
 has : Nat -> Bool
 cnt : Nat
def foJ (y : Wc) : Nat := (Int.tmod y.b 3).toNat
def foT (y : Wc) : List UInt8 := xtA y.n y.b
def foS (w : Fo) (y : Wc) : Fo := ⟨zjm w.x (nmO (foJ y)) nmSp (foT y), fun q => if q = foJ y then foT y else w.last q, fun q => if q = foJ y then true else w.has q, if w.has (foJ y) = true then w.cnt else w.cnt + 1⟩
def foD (l : List Wc) : Nat -> Fo
 | 0 => ⟨yok 65536, fun _ => [], fun _ => false, 0⟩
 | i + 1 => foS (foD l i) (zff l i)
def foX (l : List Wc) (i : Nat) : Dk := (foD l i).x
def foL (l : List Wc) (i q : Nat) : List UInt8 := (foD l i).last q
def foH (l : List Wc) (i q : Nat) : Bool := (foD l i).has q
def foC (l : List Wc) (i : Nat) : Nat := (foD l i).cnt
theorem zqn {x : Dk} (h : x.fuse = -1) : zan x = ⟨x.room, x.nd, x.names, x.sure, x.pend, wadd .i64 x.steps 1, -1, x.down⟩ := by
 unfold zan
 rw [if_neg (by omega)]
 show (⟨x.room, x.nd, x.names, x.sure, x.pend, wadd .i64 x.steps 1, if 0 < x.fuse then _ else x.fuse, x.down⟩ : Dk) = _
 rw [if_neg (by omega), h]
theorem zxk (l : List Nd) (a b : Nd) : (l ++ [a]).set l.length b = l ++ [b] := by
 rw [List.set_append_right _ _ (Nat.le_refl _), Nat.sub_self]; rfl
def svN (l : List (List UInt8 × Nat)) (nm : List UInt8) (k : Nat) : List (List UInt8 × Nat) := zf1 (zi3 (zf1 l nmSp k) nmSp) nm k
theorem yga {t : List UInt8} (h : t.length < 3000) : (slT t).length <= 3100 := by
 have := zmj t
 have hk := zfz (zcy t (by omega))
 omega
theorem yif {x : Dk} (hd : x.down = false) (hf : x.fuse = -1) (hr : x.room = 65536) (hs : zbo x.names nmSp = false) (hl : mlen x.names <= 14) (hu : 0 <= zik x /\ zik x <= 40000) {nm t : List UInt8} (ht : t.length < 3000) (hn : zgf nm = true) (hne : nm ≠ nmSp) :
   zl0 x nm nmSp t = 0 /\ ∃ st, zjm x nm nmSp t = ⟨65536, x.nd ++ [⟨slT t, slT t⟩], svN x.names nm x.nd.length, svN x.names nm x.nd.length, [], st, -1, false⟩ := by
 have hsl := yga ht
 have hz : zaw x = 0 := (zqm hf).1
 have hp : zkx x nmSp (slT t) = 0 := by
   have h1 : zji x nmSp (slT t) = ((slT t).length : Int) + zik x := by
     unfold zji
     rw [if_neg (by rw [hs]; decide)]
     unfold wadd slen
     rw [zgd]; omega
   unfold zkx
   rw [if_neg (by rw [hd]; decide), if_pos (by decide), if_neg (by rintro ⟨_, h⟩; omega), h1, if_neg (by rw [hr]; omega)]
 have h1Z : yg9 x nmSp t = 0 := (if_pos hp).trans hz
 obtain ⟨p1, hp1⟩ : ∃ p, p = x.pend ++ [⟨1, [], nmSp, true, x.nd.length⟩] := ⟨_, rfl⟩
 obtain ⟨s1, hs1⟩ : ∃ s, s = wadd .i64 x.steps 1 := ⟨_, rfl⟩
 have h1 : sv1 x nmSp t = ⟨65536, x.nd ++ [⟨slT t, []⟩], zf1 x.names nmSp x.nd.length, x.sure, p1, s1, -1, false⟩ := by
   unfold sv1 zfe
   rw [if_pos hp, if_pos hz, if_neg (by rw [hs]; decide), zqn hf]
   show (⟨x.room, (x.nd ++ [ndD]).set x.nd.length ⟨slT t, (zae (x.nd ++ [ndD]) x.nd.length).sure⟩, doL x.names ⟨1, [], nmSp, true, x.nd.length⟩, x.sure, x.pend ++ [⟨1, [], nmSp, true, x.nd.length⟩], wadd .i64 x.steps 1, -1, x.down⟩ : Dk) = _
   rw [zxk, zoy, if_pos rfl, hr, hd, <- hp1, <- hs1]
   rfl
 have hh : zbo (zf1 x.names nmSp x.nd.length) nmSp = true := by rw [ze6]; simp
 have hv : zd9 (zf1 x.names nmSp x.nd.length) nmSp = x.nd.length := by rw [zg1, if_pos rfl]
 have e2 : thE (sv1 x nmSp t) nmSp = 0 := by
   rw [h1]
   unfold thE
   rw [if_neg (by show ¬ false = true; decide), if_pos hh]
 have z1 : zaw (sv1 x nmSp t) = 0 := by rw [h1]; rfl
 have h2Z : yhr x nmSp t = 0 := (if_pos e2).trans z1
 have h2 : sv2 x nmSp t = ⟨65536, x.nd ++ [⟨slT t, slT t⟩], zf1 x.names nmSp x.nd.length, x.sure, p1, wadd .i64 s1 1, -1, false⟩ := by
   unfold sv2 zcu
   rw [if_pos e2, if_pos z1]
   have k1 : thK (sv1 x nmSp t) nmSp = x.nd.length := by rw [h1]; exact hv
   rw [k1, zqn (by rw [h1]), h1]
   show (⟨65536, (x.nd ++ [(⟨slT t, []⟩ : Nd)]).set x.nd.length (⟨(zae (x.nd ++ [(⟨slT t, []⟩ : Nd)]) x.nd.length).now, (zae (x.nd ++ [(⟨slT t, []⟩ : Nd)]) x.nd.length).now⟩ : Nd), _, _, _, _, _, _⟩ : Dk) = _
   rw [zxk, zoy, if_pos rfl]
 have e3 : thE (sv2 x nmSp t) nmSp = 0 := by
   rw [h2]
   unfold thE
   rw [if_neg (by show ¬ false = true; decide), if_pos hh]
 have z2 : zaw (sv2 x nmSp t) = 0 := by rw [h2]; rfl
 have h3Z : yhq x nm nmSp t = 0 := by
   unfold yhq zqy
   rw [if_pos e3, if_pos hn, if_neg (fun e => hne e.symm), z2]
 have h3 : ∃ p, sv3 x nm nmSp t = ⟨65536, x.nd ++ [⟨slT t, slT t⟩], svN x.names nm x.nd.length, x.sure, p, wadd .i64 (wadd .i64 s1 1) 1, -1, false⟩ := by
   refine ⟨p1 ++ [⟨2, nmSp, nm, false, 0⟩], ?_⟩
   unfold sv3 zlk
   rw [if_pos ⟨e3, hn, fun e => hne e.symm⟩, if_pos z2, zqn (by rw [h2]), h2]
   show (⟨65536, x.nd ++ [⟨slT t, slT t⟩], doL (zf1 x.names nmSp x.nd.length) ⟨2, nmSp, nm, false, 0⟩, _, _, _, _, _⟩ : Dk) = _
   unfold doL
   rw [if_neg (by show ¬ (2 : Int) = 1; decide), if_pos hh, if_pos rfl, hv]
   rfl
 obtain ⟨p3, h3⟩ := h3
 have h4Z : zmp (sv3 x nm nmSp t) = 0 := by rw [h3]; rfl
 have ht2 : ¬ 16384 < t.length := by omega
 refine ⟨?_, wadd .i64 (wadd .i64 (wadd .i64 s1 1) 1) 1, ?_⟩
 · unfold zl0
   rw [if_neg ht2, if_neg hne, if_neg (by simp [h1Z]), if_neg (by simp [h2Z]), if_neg (by simp [h3Z]), h4Z]
 · unfold zjm
   rw [if_neg ht2, if_neg hne, if_neg (by simp [h1Z]), if_neg (by simp [h2Z]), if_neg (by simp [h3Z]), h3]
   rfl
theorem yhp {l : List (List UInt8 × Nat)} (hr : zfg l) (hs : zbo l nmSp = false) {nm : List UInt8} {k : Nat} (hne : nm ≠ nmSp) (s : List UInt8) : zbo (svN l nm k) s = (decide (s = nm) || zbo l s) := by
 unfold svN
 rw [ze6, zh8 _ (zdy hr), ze6]
 by_cases e : s = nmSp
 · subst e
   rw [hs]
   simp
 · simp [e]
theorem zxd {l : List (List UInt8 × Nat)} {nm : List UInt8} {k : Nat} {s : List UInt8} (h : s ≠ nmSp) : zd9 (svN l nm k) s = if s = nm then k else zd9 l s := by
 unfold svN
 rw [zg1]
 split
 · rfl
 · rw [zn1 h, zg1, if_neg h]
theorem yd4 {l : List (List UInt8 × Nat)} (hr : zfg l) (nm : List UInt8) (k : Nat) : zfg (svN l nm k) := zdy (zk3 (zdy hr))
theorem yho {l : List (List UInt8 × Nat)} (hr : zfg l) (hs : zbo l nmSp = false) {nm : List UInt8} {k : Nat} (hne : nm ≠ nmSp) : (svN l nm k).length = if zbo l nm = true then l.length else l.length + 1 := by
 have h1 : (zf1 l nmSp k).length = l.length + 1 := by rw [zj0 hr, hs]; rfl
 have h2 : (zi3 (zf1 l nmSp k) nmSp).length = l.length := by
   rw [zn7, ze6, h1]; simp [ztc]
 have h3 : zbo (zi3 (zf1 l nmSp k) nmSp) nm = zbo l nm := by
   rw [zh8 _ (zdy hr), ze6]
   simp [hne]
 unfold svN
 rw [zj0 (zk3 (zdy hr)), h3, h2]
 cases zbo l nm <;> rfl
structure FI (w : Fo) (i : Nat) : Prop where
 down : w.x.down = false
 fuse : w.x.fuse = -1
 room : w.x.room = 65536
 pend : w.x.pend = []
 rise : zfg w.x.names
 names : ∀ s, zbo w.x.names s = true -> ∃ q, q < 3 /\ s = nmO q
 has : ∀ q, q < 3 -> zbo w.x.names (nmO q) = w.has q
 in_ : ∀ s, zbo w.x.names s = true -> zd9 w.x.names s < w.x.nd.length
 now : ∀ q, q < 3 -> w.has q = true -> (zae w.x.nd (zd9 w.x.names (nmO q))).now = slT (w.last q)
 last : ∀ q, (w.last q).length < 3000
 short : ∀ k, (zae w.x.nd k).now.length <= 3100
 cnt : w.x.names.length = w.cnt
 le : w.cnt <= i
theorem zow {q : Nat} (h : q < 3) : nmO q ≠ nmSp /\ zgf (nmO q) = true /\ (nmO q).length = 1 := by
 match q, h with
 | 0, _ => exact ⟨by decide, by decide, by decide⟩
 | 1, _ => exact ⟨by decide, by decide, by decide⟩
 | 2, _ => exact ⟨by decide, by decide, by decide⟩
theorem zzs {p q : Nat} (hp : p < 3) (hq : q < 3) (h : nmO p = nmO q) : p = q := by
 match p, q, hp, hq with
 | 0, 0, _, _ => rfl
 | 1, 1, _, _ => rfl
 | 2, 2, _, _ => rfl
 | 0, 1, _, _ => exact absurd h (by decide)
 | 0, 2, _, _ => exact absurd h (by decide)
 | 1, 0, _, _ => exact absurd h (by decide)
 | 1, 2, _, _ => exact absurd h (by decide)
 | 2, 0, _, _ => exact absurd h (by decide)
 | 2, 1, _, _ => exact absurd h (by decide)
theorem yly {l : List Int} {b : Int} (h : ∀ z ∈ l, 0 <= z /\ z <= b) : 0 <= l.sum /\ l.sum <= b * l.length := by
 induction l with
 | nil => simp
 | cons a l ih =>
   have h1 := h a (by simp)
   have h2 := ih (fun z hz => h z (by simp [hz]))
   rw [List.sum_cons, List.length_cons]
   have e : b * ((l.length + 1 : Nat) : Int) = b * (l.length : Int) + b := by
     rw [Int.natCast_add, Int.mul_add]; simp
   rw [e]
   omega
theorem yhi {x : Dk} (h : ∀ k, (zae x.nd k).now.length <= 3100) (hl : x.names.length <= 10) : 0 <= zik x /\ zik x <= 40000 := by
 have h1 := yly (l := x.names.map (zzt x.nd)) (b := 3100) (fun z hz => by
   obtain ⟨y, _, rfl⟩ := List.mem_map.1 hz
   have := h y.2
   unfold zzt
   omega)
 rw [List.length_map] at h1
 unfold zik wrap64
 omega
theorem fi_0 (l : List Wc) : FI (foD l 0) 0 := by
 refine ⟨rfl, rfl, rfl, rfl, List.Pairwise.nil, fun s h => by (cases h), fun q hq => rfl, fun s h => by (cases h), fun q hq h => by (cases h), fun q => by show [].length < 3000; decide, fun k => ?_, rfl, Nat.le_refl _⟩
 show ndD.now.length <= 3100
 decide
theorem yaw {y : Wc} (h : yg8 y) : foJ y < 3 := by
 have h := h.2
 have : Int.tmod y.b 3 = ((y.b.toNat % 3 : Nat) : Int) := by
   obtain ⟨k, hk⟩ : ∃ k : Nat, y.b = k := ⟨y.b.toNat, by omega⟩
   rw [hk]
   exact (Int.ofNat_tmod k 3).symm
 unfold foJ
 omega
theorem ynl {w : Fo} {i : Nat} (h : FI w i) : zbo w.x.names nmSp = false := by
 cases e : zbo w.x.names nmSp
 · rfl
 · obtain ⟨q, hq, e2⟩ := h.names _ e
   exact absurd e2.symm (zow hq).1
theorem yh2 {w : Fo} {i : Nat} (h : FI w i) (hi : i <= 8) {y : Wc} (hy : yg8 y) : zl0 w.x (nmO (foJ y)) nmSp (foT y) = 0 /\ FI (foS w y) (i + 1) := by
 have hj := yaw hy
 obtain ⟨n1, n2, n3⟩ := zow hj
 have ht : (foT y).length < 3000 := yhb hy.1
 have hsp := ynl h
 have hle : w.x.names.length <= 8 := by rw [h.cnt]; exact Nat.le_trans h.le hi
 obtain ⟨z, st, hD⟩ := yif h.down h.fuse h.room hsp (by show w.x.names.length <= 14; omega) (yhi h.short (by omega)) ht n2 n1
 refine ⟨z, ?_⟩
 have hX : (foS w y).x = _ := hD
 have a1 : ∀ s, zbo (svN w.x.names (nmO (foJ y)) w.x.nd.length) s = (decide (s = nmO (foJ y)) || zbo w.x.names s) := yhp h.rise hsp n1
 refine ⟨by rw [hX], by rw [hX], by rw [hX], by rw [hX], by rw [hX]; exact yd4 h.rise _ _, fun s hs => ?_, fun q hq => ?_, fun s hs => ?_, fun q hq hh => ?_, fun q => ?_, fun k => ?_, ?_, ?_⟩
 · rw [hX] at hs
   have hs : zbo (svN w.x.names (nmO (foJ y)) w.x.nd.length) s = true := hs
   rw [a1, Bool.or_eq_true, decide_eq_true_eq] at hs
   rcases hs with rfl | hs
   · exact ⟨_, hj, rfl⟩
   · exact h.names s hs
 · rw [hX]
   show zbo (svN w.x.names (nmO (foJ y)) w.x.nd.length) (nmO q) = if q = foJ y then true else w.has q
   rw [a1, h.has q hq]
   by_cases e : q = foJ y
   · rw [if_pos e, e]; simp
   · rw [if_neg e, decide_eq_false (fun e2 => e (zzs hq hj e2))]; rfl
 · rw [hX] at hs |-
   have hs : zbo (svN w.x.names (nmO (foJ y)) w.x.nd.length) s = true := hs
   show zd9 (svN w.x.names (nmO (foJ y)) w.x.nd.length) s < (w.x.nd ++ [_]).length
   rw [a1, Bool.or_eq_true, decide_eq_true_eq] at hs
   have hne : s ≠ nmSp := by
     rcases hs with rfl | hs
     · exact n1
     · intro e; rw [e, hsp] at hs; cases hs
   rw [zxd hne, List.length_append]
   simp only [List.length_cons, List.length_nil]
   split
   · omega
   · rename_i e
     rcases hs with hs | hs
     · exact absurd hs e
     · have := h.in_ s hs; omega
 · rw [hX]
   show (zae (w.x.nd ++ [_]) (zd9 (svN w.x.names (nmO (foJ y)) w.x.nd.length) (nmO q))).now = slT (if q = foJ y then foT y else w.last q)
   rw [zxd (zow hq).1, zoy]
   by_cases e : q = foJ y
   · rw [e, if_pos rfl, if_pos rfl, if_pos rfl]
   · have hh : (if q = foJ y then true else w.has q) = true := hh
     rw [if_neg e] at hh
     have hn : nmO q ≠ nmO (foJ y) := fun e2 => e (zzs hq hj e2)
     have hi := h.in_ (nmO q) (by rw [h.has q hq]; exact hh)
     rw [if_neg hn, if_neg (by omega), if_neg e]
     exact h.now q hq hh
 · show (if q = foJ y then foT y else w.last q).length < 3000
   split
   · exact ht
   · exact h.last q
 · rw [hX]
   show (zae (w.x.nd ++ [_]) k).now.length <= 3100
   rw [zoy]
   split
   · exact yga ht
   · exact h.short k
 · rw [hX]
   show (svN w.x.names (nmO (foJ y)) w.x.nd.length).length = if w.has (foJ y) = true then w.cnt else w.cnt + 1
   rw [yho h.rise hsp n1, h.has _ hj, h.cnt]
 · show (if w.has (foJ y) = true then w.cnt else w.cnt + 1) <= i + 1
   have := h.le
   split <;> omega
def foI (l : List Wc) (i : Nat) : Prop := i <= l.length /\ FI (foD l i) i
theorem yqk (l : List Wc) : foI l 0 := ⟨Nat.zero_le _, fi_0 l⟩
theorem fo_z {l : List Wc} {i : Nat} (h : foI l i) (hl : l.length <= 8) (hy : yg8 (zff l i)) : zl0 (foX l i) (nmO (foJ (zff l i))) nmSp (foT (zff l i)) = 0 := (yh2 h.2 (Nat.le_trans h.1 hl) hy).1
theorem yk1 {l : List Wc} {i : Nat} (h : foI l i) (hl : l.length <= 8) (hi : i < l.length) (hy : yg8 (zff l i)) : foI l (i + 1) := ⟨hi, (yh2 h.2 (Nat.le_trans h.1 hl) hy).2⟩
theorem yni {l : List Wc} {i : Nat} (h : foI l i) (s : List UInt8) : yjc (foX l i) s := by
 show (zhz (foX l i) s).length <= 100000
 unfold zhz
 split
 · have := h.2.short (thK (foX l i) s)
   have : (zae (foX l i).nd (thK (foX l i) s)).now.length <= 3100 := this
   omega
 · exact Nat.zero_le _
theorem yk2 {l : List Wc} {i q : Nat} (h : foI l i) (hq : q < 3) (hh : foH l i q = true) : yaf (foX l i) (nmO q) = 0 /\ ygt (foX l i) (nmO q) = foL l i q := by
 have h := h.2
 have e : thE (foX l i) (nmO q) = 0 := by
   unfold thE
   rw [if_neg (by show ¬ (foD l i).x.down = true; rw [h.down]; decide), if_pos (by show zbo (foD l i).x.names _ = true; rw [h.has q hq]; exact hh)]
 have r : zhz (foX l i) (nmO q) = slT (foL l i q) := (if_pos e).trans (h.now q hq hh)
 have hl := h.last q
 have hl : (foL l i q).length < 3000 := hl
 exact ⟨(if_pos e).trans (by rw [r]; exact ygl _ (by omega)), (if_pos e).trans (by rw [r]; exact ygk _ (by omega))⟩
theorem yfe {l : List Wc} {i : Nat} (h : foI l i) : yaf (foX l i) nmSp = 12 := by
 have h := h.2
 have e : thE (foX l i) nmSp = 12 := by
   unfold thE
   rw [if_neg (by show ¬ (foD l i).x.down = true; rw [h.down]; decide), if_neg (by show ¬ zbo (foD l i).x.names _ = true; rw [ynl h]; decide)]
 unfold yaf
 rw [e, if_neg (by decide)]
theorem yff {l : List Wc} {i : Nat} (h : foI l i) : zie (foX l i) = foC l i := by
 unfold zie
 rw [if_neg (by show ¬ (foD l i).x.down = true; rw [h.2.down]; decide)]
 exact h.2.cnt
theorem yk3 {l : List Wc} {i : Nat} (h : foI l i) (hi : i <= 8) : zpb (foX l i).names := by
 refine ⟨?_, fun y hy => ?_⟩
 · have := h.2.cnt
   have := h.2.le
   show (foD l i).x.names.length <= 1000000
   omega
 · obtain ⟨q, hq, e⟩ := h.2.names y.1 (ze7.2 (List.mem_map.2 ⟨y, hy, rfl⟩))
   rw [e, (zow hq).2.2]
   unfold maxLen; omega
theorem zmq (x : Dk) (nm sp t : List UInt8) : zcb x.nd <= zcb (zjm x nm sp t).nd := by
 have l1 : zcb x.nd <= zcb (sv1 x sp t).nd := zs2 _ _ _
 have l2 : zcb (sv1 x sp t).nd <= zcb (sv2 x sp t).nd := Nat.le_of_eq (zsc _ _).symm
 have l3 : zcb (sv2 x sp t).nd <= zcb (sv3 x nm sp t).nd := Nat.le_of_eq (zyr _ _ _).symm
 have l4 : zcb (sv3 x nm sp t).nd <= zcb (zge (sv3 x nm sp t)).nd := Nat.le_of_eq (zsi _).symm
 unfold zjm
 repeat' split
 all_goals omega
theorem ymr (q : Nat) (v : Bool) (f : Nat -> Bool) (i j : Nat) (h : j < 1) : over std q 0 1 [.bool v] (fun i _ => .bool (f i)) i j = .bool (if i = q then v else f i) := by
 obtain rfl : j = 0 := by omega
 show zcd std (za4 i q) (.bool v) (.bool (f i)) = _
 by_cases e : i = q
 · rw [if_pos e, e, za3]; rfl
 · rw [if_neg e, za8 e]; rfl
theorem ymq (q : Nat) (v : List UInt8) (f : Nat -> List UInt8) (i j : Nat) (h : j < 1) : over std q 0 1 [.str v] (fun i _ => .str (f i)) i j = .str (if i = q then v else f i) := by
 obtain rfl : j = 0 := by omega
 show zcd std (za4 i q) (.str v) (.str (f i)) = _
 by_cases e : i = q
 · rw [if_pos e, e, za3]; rfl
 · rw [if_neg e, za8 e]; rfl
def foA (L : za9) (l : List Wc) : Nat -> St -> Option Ann := fun id st => match id with
 | 0 => some ⟨Nat, fun i => [(30, .int .i64 (L zaa i)), (3, .ref 901 0), (8, .int .i64 (L zaa (L2 L foC l i))), (5, .ref 905 0), (6, .ref 906 0)], fun i => zb8 (dpX L 901 902 903 904 (L2 L foX l i)) [(905, .row 48 1 3 (fun q _ => .str (L3 L foL l i q))), (906, .row 49 1 3 (fun q _ => .bool (L3 L foH l i q)))], [7, 28, 29], [27],
     fun i => L2 L foI l i, fun i => L2 L Nat.sub (L yai l) i⟩
 | 1000050 => zwx st 30 fun i => some ⟨Nat, fun _ => [(8, .int .i64 (L zaa (L2 L foC l (L Nat.succ (L Int.toNat i))))), (6, .ref 906 0), (3, .ref 901 0)], fun _ => zb8 (dpX L 901 902 903 904 (L2 L foX l (L Nat.succ (L Int.toNat i)))) [(906, .row 49 1 3 (fun q _ => .bool (L3 L foH l (L Nat.succ (L Int.toNat i)) q)))], [5, 7, 10, 11, 28, 29, 30], [10, 27, 905],
     fun _ => True, fun _ => 0⟩
 | 2 => zwx st 30 fun i => some ⟨Nat, fun k => [(61, .int .i64 (L zaa k)), (3, .ref 901 0), (5, .ref 905 0), (6, .ref 906 0)], fun k => zb8 (dpX L 901 902 903 904 (L2 L foX l (L Nat.succ (L Int.toNat i)))) [(905, .row 48 1 3 (fun q _ => .str (L3 L foL l (L Nat.succ (L Int.toNat i)) q))), (906, .row 49 1 3 (fun q _ => .bool (L3 L foH l (L Nat.succ (L Int.toNat i)) q)))], [7, 8, 28, 29, 30, 59, 60], [27],
     fun k => L2 L Nat.le k 3, fun k => L2 L Nat.sub 3 k⟩
 | _ => none
theorem zzh (l : List Wc) (hl : ∀ y ∈ l, yg8 y) : zbi Try.prog 5 [.lst 6 (yai l) (fun i => wcC std (zff l i))] (.bool true) := by
 refine ych (T := tt) (S := fun L => zb5 [tru 22, zqj L] [yj2 L, yig L, yjb L, zr8 L]) (lo := fun L => foA L l) (lb := noA) 8 (fn := Try.f5)
   (xs := fun L => [.lst 6 (L yai l) (fun i => wcC L (L (L zff l) i))])
   tab0 (by kernel_rfl) rfl rfl (by kernel_rfl) (by kernel_rfl) rfl zaq (za5 ⟨ze3 zwd, zu8, trivial⟩ ⟨zzu, zym, yae, zr7, trivial⟩) (by kernel_rfl) ?_
 intro L P' Q' hL hP hQ
 have hE : ∀ x : Dk, L zqf ⟨L Dk.room x, L Dk.names x, L Dk.sure x, L zjt (L Dk.pend x), fun q => tnC L (L (L zee (L Dk.pend x)) q), L zcb (L Dk.nd x), fun k _ => ndC L (L (L zae (L Dk.nd x)) k), L Dk.steps x, L Dk.fuse x, L Dk.down x⟩ = x := by subst hL; exact zjq
 (cbv; try simp only [syT, true_and, and_true])
 refine ⟨fun h1 => ?_, fun _ => ⟨fun h1 => ?_, fun h1 => ⟨Nat.zero_le _, ⟨fun _ _ => trivial, fun _ _ _ _ _ _ => trivial⟩, ⟨?_, ?_⟩, ⟨0, ?_⟩, fun i hi => ?_⟩⟩⟩
 · subst hL; cases h1
 · subst hQ; rw [zdg]
 · subst hL; exact ⟨by decide, by decide⟩
 · subst hL; rfl
 · (cbv; try simp only [syT, true_and, and_true])
   subst hL
   refine ⟨Nat.le_refl _, Nat.zero_le _, fun _ _ _ _ => trivial, fun q j hq hj => ?_, fun q j hq hj => ?_, ⟨rfl, fun _ _ => trivial, fun _ _ _ _ _ _ => rfl⟩, ⟨rfl, fun _ _ _ _ => rfl⟩, rfl, rfl, rfl, rfl, rfl, rfl, rfl, fun _ _ _ _ => trivial, rfl, rfl, yqk l⟩
   · obtain rfl : j = 0 := by omega
     rfl
   · obtain rfl : j = 0 := by omega
     rfl
 · (cbv; try simp only [syT, true_and, and_true])
   simp only [hE, true_and]
   have tr : ∀ {n : Nat} {q : Nat} {p : Prop}, p -> ((∀ (k : Nat), k < n -> True) /\ ∀ (k i j : Nat), k < n -> i < 1 -> j < 2 -> True) /\ (∀ (i j : Nat), i < q -> j < 4 -> True) /\ p := fun h => ⟨⟨fun _ _ => trivial, fun _ _ _ _ _ _ => trivial⟩, fun _ _ _ _ => trivial, h⟩
   have hll : l.length <= 8 := by
     subst hL
     have h1 : ilt 8 (zaa (yai l)) = false := h1
     rw [znm] at h1
     unfold zaa yai at h1
     omega
   have hw : foI l i := by subst hL; exact hi
   have hj3 : ∀ y : Wc, yg8 y -> IntKind.i64.wrap (Int.tmod y.b 3) = zaa (foJ y) := fun y hy => by
     have h3 := yaw hy
     have hb := hy.2
     have e : Int.tmod y.b 3 = ((y.b.toNat % 3 : Nat) : Int) := by
       obtain ⟨k, hk⟩ : ∃ k : Nat, y.b = k := ⟨y.b.toNat, by omega⟩
       rw [hk]; exact (Int.ofNat_tmod k 3).symm
     unfold foJ zaa
     rw [e, zgd]
     omega
   refine ⟨fun g1 => ?_, fun g1 => ?_⟩
   · have hlt : i < l.length := by subst hL; exact zi6 g1
     have hy := hl _ (zzn hlt)
     have hact : L (L zff l) (L Int.toNat (L zaa i)) = L (L zff l) i := by subst hL; simp only [std, zd8]
     have h3 := yaw hy
     obtain ⟨J, hJv⟩ : ∃ J, J = foJ (zff l i) := ⟨_, rfl⟩
     obtain ⟨T, hTv⟩ : ∃ T, T = foT (zff l i) := ⟨_, rfl⟩
     obtain ⟨S, hSv⟩ : ∃ S, S = nmO J := ⟨_, rfl⟩
     have hJ : L IntKind.i64.wrap (L (L Int.tmod (L Wc.b (L (L zff l) i))) 3) = L zaa J := by subst hL; subst hJv; exact hj3 _ hy
     have hT : L (L xtA (L Wc.n (L (L zff l) i))) (L Wc.b (L (L zff l) i)) = T := by subst hL; subst hTv; rfl
     have hN : L (L zwm [[97], [98], [99]]) (L (L Nat.add 0) (L Int.toNat (L zaa J))) = S := by
       subst hL; subst hSv
       show zwm [[97], [98], [99]] (0 + (zaa J).toNat) = _
       rw [zd8, Nat.zero_add]; rfl
     rw [<- hJv] at h3
     have hin : L (L inR (L zaa J)) (L zaa 3) = true := by
       subst hL
       show inR (zaa J) (zaa 3) = true
       rw [zpj]
       unfold zaa; omega
     have hsz : zl0 (foX l i) S nmSp T = 0 := by rw [hSv, hJv, hTv]; exact fo_z hw hll hy
     have hnx : foI l (i + 1) := yk1 hw hll hlt hy
     have hX1 : foX l (i + 1) = zjm (foX l i) S nmSp T := by rw [hSv, hJv, hTv]; rfl
     have hL1 : ∀ q, foL l (i + 1) q = if q = J then T else foL l i q := fun q => by rw [hJv, hTv]; rfl
     have hH1 : ∀ q, foH l (i + 1) q = if q = J then true else foH l i q := fun q => by rw [hJv]; rfl
     have hC1 : foC l (i + 1) = if foH l i J = true then foC l i else foC l i + 1 := by rw [hJv]; rfl
     simp only [hact, hJ, hT, hN, hin, true_and]
     refine ⟨by subst hL; exact zph g1, by subst hL; rfl, by subst hL; exact hy.1, ?_, tr ⟨⟨?_, ?_, ?_⟩, fun g2 => ?_, fun g2 => ⟨⟨fun g3 => ⟨0, ?_⟩, fun g3 => ⟨0, ?_⟩⟩, fun y1 hy1 => ?_⟩⟩⟩
     · subst hL; exact zmq _ _ _ _
     · subst hL
       show (foD l i).x.pend.length <= 900000
       rw [hw.2.pend]; exact Nat.zero_le _
     · subst hL
       show S.length <= 1000
       rw [hSv, (zow h3).2.2]; decide
     · subst hL; show [115, 112, 97, 114, 101].length <= 1000; decide
     · exfalso
       subst hL
       have g2 : ine (zl0 (foX l i) S nmSp T) 0 = true := g2
       rw [hsz] at g2
       cases g2
     · (cbv; try simp only [syT, true_and, and_true])
       have hle := zmq (foX l i) S nmSp T
       subst hL
       simp only [std, L2, L3, zd8] at g3 |-
       have g3 : foH l i J = false := zzq g3
       rw [show foX l i.succ = zjm (foX l i) S nmSp T from hX1]
       refine ⟨Nat.le_refl _, hle, fun _ _ _ _ => trivial, fun _ _ _ _ => trivial, fun q j hq hj => ?_, ⟨rfl, fun _ _ => trivial, fun _ _ _ _ _ _ => rfl⟩, ⟨rfl, fun _ _ _ _ => rfl⟩, rfl, rfl, rfl, rfl, rfl, rfl, rfl, fun _ _ _ _ => trivial, ?_⟩
       · rw [ymr _ _ _ _ _ hj]
         exact congrArg AV.bool (hH1 q).symm
       · rw [show foC l i.succ = _ from hC1, g3, if_neg (by decide)]
         exact zgw _ (by have := hw.2.le; have := hw.1; show (foD l i).cnt <= 1000000; omega)
     · (cbv; try simp only [syT, true_and, and_true])
       have hle := zmq (foX l i) S nmSp T
       subst hL
       simp only [std, L2, L3, zd8] at g3 |-
       have g3 : foH l i J = true := zl1 g3
       rw [show foX l i.succ = zjm (foX l i) S nmSp T from hX1]
       refine ⟨Nat.le_refl _, hle, fun _ _ _ _ => trivial, fun _ _ _ _ => trivial, fun q j hq hj => ?_, ⟨rfl, fun _ _ => trivial, fun _ _ _ _ _ _ => rfl⟩, ⟨rfl, fun _ _ _ _ => rfl⟩, rfl, rfl, rfl, rfl, rfl, rfl, rfl, fun _ _ _ _ => trivial, ?_⟩
       · show AV.bool (foH l i q) = AV.bool (foH l (i + 1) q)
         rw [hH1]
         by_cases e : q = J
         · rw [if_pos e, e, g3]
         · rw [if_neg e]
       · rw [show foC l i.succ = _ from hC1, g3, if_pos rfl]
     · (cbv; try simp only [syT, true_and, and_true])
       refine ⟨by subst hL; exact hy.1, hin, ⟨0, ?_⟩, fun k hk => ?_⟩
       · (cbv; try simp only [syT, true_and, and_true])
         subst hL
         simp only [std, L2, L3, zd8] at hT |-
         refine ⟨Nat.le_refl _, fun _ _ _ _ => trivial, fun _ _ _ _ => trivial, fun q j hq hj => ?_, ⟨fun _ _ => trivial, fun _ _ _ _ _ _ => trivial⟩, fun _ _ _ _ => trivial, fun _ _ _ _ => trivial, rfl, Nat.zero_le _⟩
         rw [ymq _ _ _ _ _ hj, hT]
         exact congrArg AV.str (hL1 q).symm
       · have hk3 : k <= 3 := by subst hL; exact hk
         (cbv; try simp only [syT, true_and, and_true])
         simp only [hE, true_and]
         have hld : ∀ q, q < 3 -> foH l (i + 1) q = true -> yaf (foX l (i + 1)) (nmO q) = 0 /\ ygt (foX l (i + 1)) (nmO q) = foL l (i + 1) q := fun q hq hh => yk2 hnx hq hh
         refine ⟨fun k1 => ⟨?_, Nat.le_refl _, tr ⟨?_, ?_, fun k2 => ⟨fun k3 => ?_, fun k3 => ⟨?_, fun k4 => ?_, fun k4 => ⟨k + 1, ?_⟩⟩⟩, fun k2 => ⟨k + 1, ?_⟩⟩⟩, fun k1 => ⟨i + 1, ?_⟩⟩
         · subst hL; exact zph k1
         · subst hL; exact yni hnx _
         · subst hL; exact zph k1
         · exfalso
           subst hL
           simp only [std, L2, L3, zd8] at k1 k2 k3
           have hk := zi6 k1
           have k3 : ine (yaf (foX l (i + 1)) (zwm [[97], [98], [99]] (0 + k))) 0 = true := k3
           rw [Nat.zero_add, show zwm [[97], [98], [99]] k = nmO k from rfl, (hld k hk k2).1] at k3
           cases k3
         · subst hL; exact zph k1
         · exfalso
           subst hL
           simp only [std, L2, L3, zd8] at k1 k2 k4
           have hk := zi6 k1
           have k4 : (!seq (ygt (foX l (i + 1)) (zwm [[97], [98], [99]] (0 + k))) (foL l (i + 1) k)) = true := k4
           rw [Nat.zero_add, show zwm [[97], [98], [99]] k = nmO k from rfl, (hld k hk k2).2] at k4
           simp [seq] at k4
         · (cbv; try simp only [syT, true_and, and_true])
           subst hL
           simp only [std, zd8] at k1 |-
           have hk := zi6 k1
           exact ⟨Nat.le_refl _, Nat.le_refl _, fun _ _ _ _ => trivial, fun _ _ _ _ => trivial, fun _ _ _ _ => trivial, ⟨fun _ _ => trivial, fun _ _ _ _ _ _ => trivial⟩, fun _ _ _ _ => trivial, fun _ _ _ _ => trivial, zgw k (by omega), hk, zmg hk⟩
         · (cbv; try simp only [syT, true_and, and_true])
           subst hL
           simp only [std, zd8] at k1 |-
           have hk := zi6 k1
           exact ⟨Nat.le_refl _, Nat.le_refl _, fun _ _ _ _ => trivial, fun _ _ _ _ => trivial, fun _ _ _ _ => trivial, ⟨fun _ _ => trivial, fun _ _ _ _ _ _ => trivial⟩, fun _ _ _ _ => trivial, fun _ _ _ _ => trivial, zgw k (by omega), hk, zmg hk⟩
         · (cbv; try simp only [syT, true_and, and_true])
           subst hL
           exact ⟨Nat.le_refl _, fun _ _ _ _ => trivial, fun _ _ _ _ => rfl, fun _ _ _ _ => rfl, ⟨rfl, fun _ _ => trivial, fun _ _ _ _ _ _ => rfl⟩, ⟨rfl, fun _ _ _ _ => rfl⟩, rfl, rfl, rfl, rfl, rfl, rfl, rfl, fun _ _ _ _ => trivial, rfl, zgw i (by omega), hnx, zmg hlt⟩
   · have hie : i = l.length := by
       subst hL
       exact Nat.le_antisymm hw.1 (zpk g1)
     refine ⟨Nat.le_refl _, tr ⟨?_, fun g2 => ⟨Nat.le_refl _, tr ⟨?_, ?_⟩⟩, fun g2 => ?_⟩⟩
     · subst hL; exact yni hw _
     · subst hL; exact yk3 hw (by omega)
     · subst hL; subst hQ
       rw [zdg]
       show ieq (zaa (zie (foX l i))) (zaa (foC l i)) = true
       rw [yff hw]
       simp [ieq]
     · exfalso
       subst hL
       have g2 : ieq (yaf (foX l i) nmSp) 12 = false := g2
       rw [yfe hw] at g2
       cases g2
theorem law_FileOthers (l : List Wc) (hl : l.length <= maxLen /\ ∀ y ∈ l, yg8 y) : zbi Try.prog 5 [.lst 6 l.length (avL (wcC std) l)] (.bool true) :=
 yky (fun hp D vs hr => by
   refine ⟨by rw [<- hr.1]; rfl, fun i z v hz hv => ?_⟩
   match i, hz with
   | 0, hz => cases hz; exact ypz (fun i j hi hj => avWc l i j hi) (hr.2 0 _ v rfl hv)
   | i + 1, hz => exact hr.2 (i + 1) z v hz hv) (zzh l hl.2)
end Sy
end Go.Proofs.Ytogomcfgfnlclaa
