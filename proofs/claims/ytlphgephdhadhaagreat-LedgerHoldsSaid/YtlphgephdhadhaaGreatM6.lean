/-Chapter 13 (disk): the closed run, go on: the acts. Chapter 13 (disk): the closed run: a loss of power; the chapter's example. Chapter 13 (disk): the chapter's example; and what stands between these and the texts behind.-/
import Derived.Test.YtlphgephdhadhaaGreatM5
import Derived.Test.YtlphgephdhadhaaGreatM4
namespace Go.Proofs.YtlphgephdhadhaaGreat
namespace Sy
open Go Go.RowKit
set_option maxRecDepth 100000
set_option linter.unusedSimpArgs false
set_option linter.unusedVariables false
def DkS.used (L : za8) : DkS -> Int
 | .c _ x _ => L slen x
 | _ => 0
def DkS.usable : DkS -> Prop
 | .a _ => True
 | .c _ x _ => zc7 x
 | _ => False
def zs9 (L : za8) : zfq := (100, fun raw ob => match raw with
 | [.ref id 0] => match yap ob id with
   | some sh => some ⟨[.ref 500000 0], dkO 500005 sh, L DkS.usable sh, .int .i64 (sh.used L), dkO 500005 sh⟩
   | _ => none
 | _ => none)
theorem zof : zcb Tryz.prog (zs9 std) := by
 intro raw ob T hT hp
 unfold zs9 at hT
 simp only at hT
 repeat' split at hT
 all_goals first | (cases hT; done) | skip
 rename_i sh hsh
 cases hT
 intro D w μ vs hD hxs hdom hobs hinj hown hg hgb
 obtain ⟨v, rfl, r1⟩ := zn7 hxs
 cases r1 with
 | ref _ _ b z m hμ =>
   cases sh with
   | b k x s => exact hp.elim
   | d k x s y t => exact hp.elim
   | a k =>
     obtain ⟨C, t, fr, hb, hz, hf, ho, hC1, hC2⟩ := hobs 500000 _ _ rfl hμ
     obtain ⟨v1, hv1⟩ : ∃ v1, C[1]? = some v1 := ⟨C[1]'(by rw [<- hC1]; simp), by simp⟩
     have r2 : R w.heap D μ (.mp 500001) v1 := hC2 1 _ v1 rfl hv1
     cases r2 with
     | mp _ bm zm mm hμm =>
       obtain ⟨es, clock, kf, hbm, hn, hks, hnd, hr⟩ := hobs 500001 _ _ rfl hμm
       have hes : es = #[] := Array.eq_empty_of_size_eq_zero hn
       subst hes
       refine zhr (fn := Tryz.f100) rfl rfl (by kernel_rfl) ((yox w b bm clock (by rw [zfn, zb0 hb]; exact hv1) hbm).mono ?_)
       rintro e w' ⟨rfl, B⟩
       exact ⟨_, D, μ, zkh hD hdom hobs hinj hown B (fun b h => h) (fun b h => .inl h) (.int _ _)⟩
   | c k x s =>
     obtain ⟨C, t, fr, hb, hz, hf, ho, hC1, hC2⟩ := hobs 500000 _ _ rfl hμ
     obtain ⟨v1, hv1⟩ : ∃ v1, C[1]? = some v1 := ⟨C[1]'(by rw [<- hC1]; simp), by simp⟩
     have r2 : R w.heap D μ (.mp 500001) v1 := hC2 1 _ v1 rfl hv1
     cases r2 with
     | mp _ bm zm mm hμm =>
       obtain ⟨e, clock, s1, hbm, hst, hk, hs, rx⟩ := zp2 (hobs 500001 _ _ rfl hμm)
       generalize hev : e.val = ev at rx
       cases rx with
       | ref _ _ bn zn mn hμn =>
         obtain ⟨C', t', fr', hb', hz', hf', ho', hC1', hC2'⟩ := hobs 500003 _ _ rfl hμn
         obtain ⟨v2, hv2⟩ : ∃ v2, C'[0]? = some v2 := ⟨C'[0]'(by rw [<- hC1']; simp), by simp⟩
         have r3 : R w.heap D μ (.str x) v2 := hC2' 0 _ v2 rfl hv2
         obtain ⟨s2, rfl, hs2⟩ := r3.inv_str
         have hsh : x.length <= 1000 := hp
         have hsz : s2.size = x.length := by rw [<- hs2]; simp
         refine zhr (fn := Tryz.f100) rfl rfl (by kernel_rfl) ((yow w b bm bn clock e s2 (by rw [zfn, zb0 hb]; exact hv1) hbm hst hev (by rw [zfn, zb0 hb']; exact hv2)).mono ?_)
         rintro e w' ⟨rfl, B⟩
         have he : wrap64 (s2.size : Int) = slen x := by
           unfold wrap64 slen
           omega
         rw [he]
         exact ⟨_, D, μ, zkh hD hdom hobs hinj hown B (fun b h => h) (fun b h => .inl h) (.int _ _)⟩
def wrO (L : za8) (x : List UInt8) : DkS -> List (Nat × Ob)
 | .a k => [(500000, zrs (.sl 17 4 0 1) (L inc k)), (500001, .mapl .s [(.s nmA, .ref 64 0)]), (500002, .mapl .s []), (64, zcm x []), (17, ydb nmA)]
 | .c k y s => [(500000, zrs (.sl 17 4 0 1) (L inc k)), (500001, .mapl .s [(.s nmA, .ref 500003 0), (.s nmB, .ref 64 0)]), (500002, .mapl .s [(.s nmA, .ref 500003 0)]), (500003, zcm y s), (64, zcm x []), (17, ydb nmB)]
 | _ => []
def yon : DkS -> List UInt8
 | .a _ => nmA
 | _ => nmB
def yo6 (x : List UInt8) : DkS -> Prop
 | .a k => zcd k /\ x.length <= 50
 | .c k y s => zcd k /\ x.length <= 50 /\ y.length <= 50
 | _ => False
def zqm (L : za8) : zfq := (84, fun raw ob => match raw with
 | [.ref id 0, .str _, .str x] => match yap ob id with
   | some sh => some ⟨[.ref 500000 0, .str (yon sh), .str x], dkO 500005 sh, L2 L yo6 x sh, .int .i64 0, wrO L x sh⟩
   | _ => none
 | _ => none)
theorem yh1 (k : Int) (x : List UInt8) (hk : zcd k) (hx : x.length <= 50) : zaq Tryz.prog 84 [.ref 500000 0, .str nmA, .str x] (dkO 500005 (.a k)) (.int .i64 0) (wrO std x (.a k)) := by
 refine zak (T := tt) (S := fun L => zb3 [ycp L, zt6 L] [yi9, zs9 L, zim L, zj8]) (lo := noA) (lb := noA) 8 (fn := Tryz.f84) (xs := fun L => [.ref 500000 0, .str nmA, .str x]) (rts := fun _ => [.int .i64 0]) (O := fun L => dkO 500005 (.a k)) (O1 := fun L => wrO L x (.a k))
   rfl rfl (by kernel_rfl) (by kernel_rfl) (by kernel_rfl) zae (zaa ⟨zsl, zp4, trivial⟩ ⟨zkc, zof, zgi, zjy, trivial⟩) (by kernel_rfl) ?_
 intro L P' Q' hL hP hQ
 (cbv; try simp only [syT, true_and, and_true])
 subst hL
 have e0 : ine 0 0 = false := by decide
 have e1 : ydl [97] = true := by decide
 have e2 : ile 16 (Int.ofNat 0) = false := by decide
 have e3 : ilt 100 (zc6 .i64 (slen x) 0) = false := by
   rw [zku]
   unfold zc6 slen
   rw [zdi]
   omega
 have e4 : zc7 x := by unfold zc7; omega
 have e5 : zc7 [97] := by unfold zc7; decide
 simp [std, e0, e1, e2, e3, e4, e5, DkS.usable, DkS.k, hk]
 decide
theorem yh0 (k : Int) (x y s : List UInt8) (hk : zcd k) (hx : x.length <= 50) (hy : y.length <= 50) : zaq Tryz.prog 84 [.ref 500000 0, .str nmB, .str x] (dkO 500005 (.c k y s)) (.int .i64 0) (wrO std x (.c k y s)) := by
 refine zak (T := tt) (S := fun L => zb3 [ycp L, zt6 L] [yi9, zs9 L, zim L, zj8]) (lo := noA) (lb := noA) 8 (fn := Tryz.f84) (xs := fun L => [.ref 500000 0, .str nmB, .str x]) (rts := fun _ => [.int .i64 0]) (O := fun L => dkO 500005 (.c k y s)) (O1 := fun L => wrO L x (.c k y s))
   rfl rfl (by kernel_rfl) (by kernel_rfl) (by kernel_rfl) zae (zaa ⟨zsl, zp4, trivial⟩ ⟨zkc, zof, zgi, zjy, trivial⟩) (by kernel_rfl) ?_
 intro L P' Q' hL hP hQ
 (cbv; try simp only [syT, true_and, and_true])
 subst hL
 have e0 : ine 0 0 = false := by decide
 have e1 : ydl [98] = true := by decide
 have e2 : ile 16 (Int.ofNat 1) = false := by decide
 have e3 : ilt 100 (zc6 .i64 (slen x) (slen y)) = false := by
   rw [zku]
   unfold zc6 slen
   rw [zdi]
   omega
 have e4 : zc7 x := by unfold zc7; omega
 have e6 : zc7 y := by unfold zc7; omega
 have e5 : zc7 [98] := by unfold zc7; decide
 simp [std, e0, e1, e2, e3, e4, e5, e6, DkS.usable, DkS.k, hk]
 decide
theorem zuh : zcb Tryz.prog (zqm std) := by
 intro raw ob T hT hp
 unfold zqm at hT
 simp only at hT
 repeat' split at hT
 all_goals first | (cases hT; done) | skip
 rename_i x _ sh hsh
 cases hT
 have hp : yo6 x sh := hp
 cases sh with
 | a k => exact yh1 k x hp.1 hp.2
 | b k y s => exact hp.elim
 | c k y s => exact yh0 k x y s hp.1 hp.2.1 hp.2.2
 | d k y s z t => exact hp.elim
def zwy (L : za8) : zfq := (85, fun raw ob => match raw with
 | [.ref id 0, .str _] => match yap ob id with
   | some (.b k x s) => some ⟨[.ref 500000 0, .str nmA], dkO 500005 (.b k x s), L zcd k, .int .i64 0, dkO 500005 (.b (L inc k) x x)⟩
   | _ => none
 | _ => none)
theorem ylg (k : Int) (x s : List UInt8) (hk : zcd k) : zaq Tryz.prog 85 [.ref 500000 0, .str nmA] (dkO 500005 (.b k x s)) (.int .i64 0) (dkO 500005 (.b (inc k) x x)) := by
 refine zak (T := tt) (S := fun L => zb3 [] [zmu, zim L]) (lo := noA) (lb := noA) 8 (fn := Tryz.f85) (xs := fun L => [.ref 500000 0, .str nmA]) (rts := fun _ => [.int .i64 0]) (O := fun L => dkO 500005 (.b k x s)) (O1 := fun L => dkO 500005 (.b (L inc k) x x))
   rfl rfl (by kernel_rfl) (by kernel_rfl) (by kernel_rfl) zae (zaa trivial ⟨zlr, zgi, trivial⟩) (by kernel_rfl) ?_
 intro L P' Q' hL hP hQ
 (cbv; try simp only [syT, true_and, and_true])
 subst hL
 have e0 : ieq 0 0 = true := by decide
 simp [std, e0, DkS.k, hk]
theorem zwz : zcb Tryz.prog (zwy std) := by
 intro raw ob T hT hp
 unfold zwy at hT
 simp only at hT
 repeat' split at hT
 all_goals first | (cases hT; done) | (cases hT; exact ylg _ _ _ hp)
def sdO (k : Int) (x s : List UInt8) : List (Nat × Ob) := [(500000, zu8 500001 18 .nils k), (500001, .mapl .s [(.s nmA, .ref 500003 0)]), (18, .mapl .s [(.s nmA, .ref 500003 0)]), (500003, zcm x s)]
def zxa (L : za8) : zfq := (86, fun raw ob => match raw with
 | [.ref id 0] => match yap ob id with
   | some (.b k x s) => some ⟨[.ref 500000 0], dkO 500005 (.b k x s), L zcd k, .int .i64 0, sdO (L inc k) x s⟩
   | _ => none
 | _ => none)
theorem ylp (k : Int) (x s : List UInt8) (hk : zcd k) : zaq Tryz.prog 86 [.ref 500000 0] (dkO 500005 (.b k x s)) (.int .i64 0) (sdO (inc k) x s) := by
 refine zak (T := tt) (S := fun L => zb3 [] [yi9, zim L, zjm]) (lo := noA) (lb := noA) 8 (fn := Tryz.f86) (xs := fun L => [.ref 500000 0]) (rts := fun _ => [.int .i64 0]) (O := fun L => dkO 500005 (.b k x s)) (O1 := fun L => sdO (L inc k) x s)
   rfl rfl (by kernel_rfl) (by kernel_rfl) (by kernel_rfl) zae (zaa trivial ⟨zkc, zgi, zl5, trivial⟩) (by kernel_rfl) ?_
 intro L P' Q' hL hP hQ
 (cbv; try simp only [syT, true_and, and_true])
 subst hL
 have e0 : ieq 0 0 = true := by decide
 simp [std, e0, DkS.k, hk]
theorem zxb : zcb Tryz.prog (zxa std) := by
 intro raw ob T hT hp
 unfold zxa at hT
 simp only at hT
 repeat' split at hT
 all_goals first | (cases hT; done) | (cases hT; exact ylp _ _ _ hp)
def zy5 : zfq := (88, fun raw ob => match raw with
 | [.ref id 0, .str _] => match yap ob id with
   | some (.c k x s) => some ⟨[.ref 500000 0, .str nmA], dkO 500005 (.c k x s), True, .tup [.str x, .int .i64 0], dkO 500005 (.c k x s)⟩
   | _ => none
 | _ => none)
theorem yly (k : Int) (x s : List UInt8) : zaq Tryz.prog 88 [.ref 500000 0, .str nmA] (dkO 500005 (.c k x s)) (.tup [.str x, .int .i64 0]) (dkO 500005 (.c k x s)) := by
 refine zak (T := tt) (S := fun L => zb3 [] [zmu]) (lo := noA) (lb := noA) 8 (fn := Tryz.f88) (xs := fun L => [.ref 500000 0, .str nmA]) (rts := fun _ => [.str x, .int .i64 0]) (O := fun L => dkO 500005 (.c k x s)) (O1 := fun L => dkO 500005 (.c k x s))
   rfl rfl (by kernel_rfl) (by kernel_rfl) (by kernel_rfl) zae (zaa trivial ⟨zlr, trivial⟩) (by kernel_rfl) ?_
 intro L P' Q' hL hP hQ
 (cbv; try simp only [syT, true_and, and_true])
 subst hL
 have e0 : ine 0 0 = false := by decide
 simp [std, e0]
theorem zy6 : zcb Tryz.prog zy5 := by
 intro raw ob T hT hp
 unfold zy5 at hT
 simp only at hT
 repeat' split at hT
 all_goals first | (cases hT; done) | (cases hT; exact yly _ _ _)
def znz : zfq := (108, fun raw ob => match raw with
 | [.mp n] => match ob n with
   | some (.mapl _ [(_, .ref i _)]) => some ⟨[.mp 500001], yg3 (zba (ob i)).1 (zba (ob i)).2, True, .fn 120 [] [.ref 1 0], zbm [(1, .box 149 [.mp 500001])] (yg3 (zba (ob i)).1 (zba (ob i)).2)⟩
   | _ => none
 | _ => none)
theorem yf3 (x s : List UInt8) : zaq Tryz.prog 108 [.mp 500001] (yg3 x s) (.fn 120 [] [.ref 1 0]) (zbm [(1, .box 149 [.mp 500001])] (yg3 x s)) := by
 refine zak (T := tt) (S := fun L => zb3 [] []) (lo := noA) (lb := noA) 8 (fn := Tryz.f108) (xs := fun L => [.mp 500001]) (rts := fun _ => [.fn 120 [] [.ref 1 0]]) (O := fun L => yg3 x s) (O1 := fun L => zbm [(1, .box 149 [.mp 500001])] (yg3 x s))
   rfl rfl (by kernel_rfl) (by kernel_rfl) (by kernel_rfl) zae (zaa trivial trivial) (by kernel_rfl) ?_
 intro L P' Q' hL hP hQ
 (cbv; try simp only [syT, true_and, and_true])
theorem zmh : zcb Tryz.prog znz := by
 intro raw ob T hT hp
 unfold znz at hT
 simp only at hT
 repeat' split at hT
 all_goals first | (cases hT; done) | (cases hT; exact yf3 _ _)
def zr5 : zfq := (89, fun raw ob => match raw with
 | [.ref id 0] => match yap ob id with
   | some (.c k x s) => some ⟨[.ref 500000 0], dkO 500005 (.c k x s), True, .lst 1 1 (fun _ _ => .str nmA), dkO 500005 (.c k x s)⟩
   | _ => none
 | _ => none)
theorem yif (k : Int) (x s : List UInt8) : zaq Tryz.prog 89 [.ref 500000 0] (dkO 500005 (.c k x s)) (.lst 1 1 (fun _ _ => .str nmA)) (dkO 500005 (.c k x s)) := by
 refine zak (T := tt) (S := fun L => zb3 [] [yi9, znz, zj9]) (lo := noA) (lb := noA) 8 (fn := Tryz.f89) (xs := fun L => [.ref 500000 0]) (rts := fun _ => [.lst 1 1 (fun _ _ => .str nmA)]) (O := fun L => dkO 500005 (.c k x s)) (O1 := fun L => dkO 500005 (.c k x s))
   rfl rfl (by kernel_rfl) (by kernel_rfl) (by kernel_rfl) zae (zaa trivial ⟨zkc, zmh, zk1, trivial⟩) (by kernel_rfl) ?_
 intro L P' Q' hL hP hQ
 (cbv; try simp only [syT, true_and, and_true])
 subst hL
 have e0 : ine 0 0 = false := by decide
 simp [std, e0]
theorem zvh : zcb Tryz.prog zr5 := by
 intro raw ob T hT hp
 unfold zr5 at hT
 simp only at hT
 repeat' split at hT
 all_goals first | (cases hT; done) | (cases hT; exact yif _ _ _)
def zyw (x s : List UInt8) (i : Nat) : List UInt8 := if i = 0 then x else s
def isZ (i : Nat) : Bool := decide (i = 0)
def crA (L : za8) (k : Int) (x s y t : List UInt8) : Nat -> St -> Option Ann := fun id st => match id with
 | 0 => some ⟨Nat, fun i => [(21, .int .i64 (L zac i))], fun _ => [], [0, 1, 2, 19, 20], [500000, 500001, 500002, 500003, 500004, 500005], fun i => L (fun i => i <= 1) i, fun i => L (fun (i : Nat) => 1 - i) i⟩
 | 2 => some ⟨Nat, fun i => [(51, .int .i64 (L zac i)), (9, .int .i64 (L zac i))], fun i => [(500000, zrs (.sl 500005 4 0 1) k), (500001, .mapl .s [(.s nmA, .ref 500003 0), (.s nmB, .ref 500004 0)]), (500002, .mapl .s [(.s nmA, .ref 500003 0)]), (500003, .box 156 [.str (L3 L zyw x s i), .str s]), (500004, zcm y t), (43, .mapq (L isZ i))], [0, 2, 8, 49, 50], [500005], fun i => L (fun i => i <= 1) i, fun i => L (fun (i : Nat) => 1 - i) i⟩
 | _ => none
def crO (k : Int) (s : List UInt8) : List (Nat × Ob) := [(500000, zu8 19 500002 .nils k), (19, .mapl .s [(.s nmA, .ref 500003 0)]), (500002, .mapl .s [(.s nmA, .ref 500003 0)]), (500003, zcm s s)]
def zru (L : za8) : zfq := (87, fun raw ob => match raw with
 | [.ref id 0, .nils, .nils] => match yap ob id with
   | some (.d k x s y t) => some ⟨[.ref 500000 0, .nils, .nils], dkO 500005 (.d k x s y t), L zc7 s, .tup [], crO k s⟩
   | _ => none
 | _ => none)
theorem yjw (k : Int) (x s y t : List UInt8) (hs : zc7 s) : zaq Tryz.prog 87 [.ref 500000 0, .nils, .nils] (dkO 500005 (.d k x s y t)) (.tup []) (crO k s) := by
 refine zak (T := tt) (S := fun L => zb3 [] [ynf, znz, zj9, zzt L, zjm]) (lo := fun L => crA L k x s y t) (lb := noA) 12 (fn := Tryz.f87) (xs := fun L => [.ref 500000 0, .nils, .nils]) (rts := fun _ => []) (O := fun L => dkO 500005 (.d k x s y t)) (O1 := fun L => crO k s)
   rfl rfl (by kernel_rfl) (by kernel_rfl) (by kernel_rfl) zae (zaa trivial ⟨zrr, zmh, zk1, zzu, zl5, trivial⟩) (by kernel_rfl) ?_
 intro L P' Q' hL hP hQ
 (cbv; try simp only [syT, true_and, and_true])
 refine ⟨fun h => (by cases h), fun _ => ⟨⟨0, ?_⟩, fun i hi => ?_⟩⟩
 · (cbv; try simp only [syT, true_and, and_true])
   subst hL
   exact ⟨fun _ _ _ _ => trivial, rfl, Nat.zero_le _⟩
 · (cbv; try simp only [syT, true_and, and_true])
   refine ⟨fun h2 => ⟨?_, fun h3 => ?_, fun h3 => ⟨i + 1, ?_⟩⟩, fun h2 => ⟨⟨0, ?_⟩, fun j hj => ?_⟩⟩
   · subst hL
     have h2 : ilt (zac i) (zac 1) = true := h2
     rw [zev] at h2
     show inR (zac i) (zac 1) = true
     rw [zns]
     exact ⟨Int.natCast_nonneg _, h2⟩
   · subst hL
     have h3 : ilt (zac i) 0 = true := h3
     rw [zev] at h3
     unfold zac at h3
     omega
   · (cbv; try simp only [syT, true_and, and_true])
     subst hL
     have hi : i <= 1 := hi
     have h2 : ilt (zac i) (zac 1) = true := h2
     rw [zev] at h2
     unfold zac at h2
     refine ⟨fun _ _ _ _ => trivial, ?_, ?_, ?_⟩
     · show zc6 .i64 (zac i) 1 = zac (i + 1)
       unfold zc6 zac
       rw [zdi]
       omega
     · show i + 1 <= 1
       omega
     · show 1 - (i + 1) < 1 - i
       omega
   · (cbv; try simp only [syT, true_and, and_true])
     subst hL
     exact ⟨fun _ _ _ _ => trivial, fun _ => trivial, rfl, fun _ _ _ _ => trivial, rfl, rfl, Nat.zero_le _⟩
   · (cbv; try simp only [syT, true_and, and_true])
     refine ⟨fun h3 => ⟨?_, ?_, fun h => (by cases h), fun _ => ⟨fun h4 => ?_, fun h4 => ⟨?_, ?_, ⟨j + 1, ?_⟩⟩⟩⟩, fun h3 => ?_⟩
     · subst hL
       have h3 : ilt (zac j) (zac 1) = true := h3
       rw [zev] at h3
       show inR (zac j) (zac 1) = true
       rw [zns]
       exact ⟨Int.natCast_nonneg _, h3⟩
     · subst hL
       have h3 : ilt (zac j) (zac 1) = true := h3
       rw [zev] at h3
       unfold zac at h3
       exact decide_eq_true (show j = 0 by omega)
     · subst hL
       have h4 : ilt (zac j) 0 = true := h4
       rw [zev] at h4
       unfold zac at h4
       omega
     · subst hL
       exact hs
     · subst hL
       have h3 : ilt (zac j) (zac 1) = true := h3
       rw [zev] at h3
       unfold zac at h3
       exact decide_eq_true (show j = 0 by omega)
     · (cbv; try simp only [syT, true_and, and_true])
       subst hL
       have hj : j <= 1 := hj
       have h3 : ilt (zac j) (zac 1) = true := h3
       rw [zev] at h3
       unfold zac at h3
       have ew : zc6 .i64 (zac j) 1 = zac (j + 1) := by
         unfold zc6 zac
         rw [zdi]
         omega
       refine ⟨fun _ _ _ _ => trivial, fun h => ?_, ?_, fun _ _ _ _ => trivial, ew, ew, ?_, ?_⟩
       · have h : decide (j + 1 = 0) = true := h
         simp at h
       · show s = zyw x s (j + 1)
         unfold zyw
         rw [if_neg (by omega)]
       · show j + 1 <= 1
         omega
       · show 1 - (j + 1) < 1 - j
         omega
     · subst hL
       have h3 : ilt (zac j) (zac 1) = false := h3
       rw [zku] at h3
       unfold zac at h3
       show zyw x s j = s
       unfold zyw
       rw [if_neg (by omega)]
theorem zvu : zcb Tryz.prog (zru std) := by
 intro raw ob T hT hp
 unfold zru at hT
 simp only at hT
 repeat' split at hT
 all_goals first | (cases hT; done) | (cases hT; exact yjw _ _ _ _ _ hp)
theorem zw3 : zab Tryz.prog 75 [] (.bool true) := by
 refine za9 (T := tt) (S := fun L => zb3 [] [yie L, zqm L, zwy L, zxa L, zru L, zy5, zr5]) (lo := noA) (lb := noA) 12 (fn := Tryz.f75) rfl rfl (by kernel_rfl) (by kernel_rfl) rfl zae (zaa trivial ⟨ydk, zuh, zwz, zxb, zvu, zy6, zvh, trivial⟩) (by kernel_rfl) ?_
 intro L P' Q' hL hP hQ
 (cbv; try simp only [syT, true_and, and_true])
 subst hL
 subst hQ
 have e0 : ine 0 0 = false := by decide
 have e1 : ieq 0 0 = true := by decide
 have s0 : zcd 0 := ⟨by decide, by decide⟩
 have s1 : zcd (inc 0) := ⟨by decide, by decide⟩
 have s2 : zcd (inc (inc 0)) := ⟨by decide, by decide⟩
 have s3 : zcd (inc (inc (inc 0))) := ⟨by decide, by decide⟩
 have w1 : yo6 [120] (.a 0) := ⟨s0, by decide⟩
 have w2 : yo6 [121] (.c (inc (inc (inc 0))) [120] [120]) := ⟨s3, by decide, by decide⟩
 have sh : zc7 [120] := by unfold zc7; decide
 have q1 : seq [120] [120] = true := by decide
 have q2 : ieq (zac 1) 1 = true := by decide
 simp [std, e0, e1, s1, s2, w1, w2, sh, q1, q2, zby]
theorem zwc : zab Tryz.prog 59 [] (.bool true) := by
 refine za9 (T := tt) (S := fun L => zbe [tru 74]) (lo := noA) (lb := noA) 5 (fn := Tryz.f59) rfl rfl (by kernel_rfl) (by kernel_rfl) rfl zae (za7 ⟨zc1 zw5, trivial⟩) (by kernel_rfl) ?_
 (intro L P1 Q1 hL hP hQ; cbv; subst hL; simp only [L2, L3, std, syT]; subst hQ)
 (simp only [syS, reduceCtorEq, Int.reduceToNat, Int.reduceAdd, Int.reduceSub])
theorem zwa : zab Tryz.prog 60 [] (.bool true) := by
 refine za9 (T := tt) (S := fun L => zbe [tru 75]) (lo := noA) (lb := noA) 5 (fn := Tryz.f60) rfl rfl (by kernel_rfl) (by kernel_rfl) rfl zae (za7 ⟨zc1 zw3, trivial⟩) (by kernel_rfl) ?_
 (intro L P1 Q1 hL hP hQ; cbv; subst hL; simp only [L2, L3, std, syT]; subst hQ)
 (simp only [syS, reduceCtorEq, Int.reduceToNat, Int.reduceAdd, Int.reduceSub])
theorem zw2 : zab Tryz.prog 42 [] (.bool true) := by
 refine za9 (T := tt) (S := fun L => zbe [zsj L, zyo L, yjj, tru 56, tru 59, tru 60]) (lo := noA) (lb := noA) 5 (fn := Tryz.f42) rfl rfl (by kernel_rfl) (by kernel_rfl) rfl zae (za7 ⟨zoj, zyp, yew, zc1 zir, zc1 zwc, zc1 zwa, trivial⟩) (by kernel_rfl) ?_
 (intro L P1 Q1 hL hP hQ; cbv; subst hL; simp only [L2, L3, std, syT]; subst hQ)
 have e1 : opV (slT [97]) = [97] := ym5 [97] (by decide)
 have e2 : opE (slT [97]) = 0 := ym6 [97] (by decide)
 have h1 : upto 100000 [97] := by show [97].length <= 100000; decide
 have hk := zls (zf8 [97] (by decide))
 have h2 : upto 100000 (slT [97]) := by
   have := zx3 [97]
   show (slT [97]).length <= 100000
   have e : [(97 : UInt8)].length = 1 := rfl
   omega
 rw [e1, e2]
 have q1 : ieq 0 0 = true := by decide
 have q2 : seq [97] [97] = true := by decide
 have q3 : ieq 4 4 = true := by decide
 simp [h1, h2, q1, q2, q3, zby]
theorem zw9 : zab Tryz.prog 23 [] (.bool true) := by
 refine za9 (T := tt) (S := fun L => zbe [tru 42]) (lo := noA) (lb := noA) 5 (fn := Tryz.f23) rfl rfl (by kernel_rfl) (by kernel_rfl) rfl zae (za7 ⟨zc1 zw2, trivial⟩) (by kernel_rfl) ?_
 (intro L P1 Q1 hL hP hQ; cbv; subst hL; simp only [L2, L3, std, syT]; subst hQ)
 (simp only [syS, reduceCtorEq, Int.reduceToNat, Int.reduceAdd, Int.reduceSub])
theorem zio : ∀ l : List CV, zf1 l = true ↔ ∀ i, i < l.length -> zhu (zf4 l i) = true
 | [] => by rw [zf1]; simp
 | v :: l => by
   rw [zf1, Bool.and_eq_true, zio l]
   refine ⟨fun ⟨h1, h2⟩ i hi => ?_, fun h => ⟨h 0 (by simp), fun i hi => h (i + 1) (by simpa using hi)⟩⟩
   cases i with
   | zero => exact h1
   | succ i => exact h2 i (by simpa using hi)
def yem (l : List CV) : Int := if zf1 l = true then -1 else (l.findIdx fun v => !zhu v : Nat)
def ynt (l : List CV) (i : Nat) : Prop := i <= l.length /\ ∀ j, j < i -> zhu (zf4 l j) = true
theorem yjb {l : List CV} {i : Nat} (hi : i < l.length) (h : ∀ j, j < i -> zhu (zf4 l j) = true) (hn : zhu (zf4 l i) = false) : yem l = (i : Int) := by
 have hb : ¬ zf1 l = true := by
   rw [zio]
   intro h2
   have := h2 i hi
   rw [hn] at this; cases this
 rw [yem, if_neg hb]
 congr 1
 rw [List.findIdx_eq hi]
 have get : ∀ (j : Nat) (hj : j < l.length), l[j] = zf4 l j := by
   intro j hj
   rw [zf4, List.getD_eq_getElem?_getD, List.getElem?_eq_getElem hj]; rfl
 refine ⟨by rw [get i hi, hn]; rfl, fun j hj => ?_⟩
 have hj' := h j hj
 rw [get j (by omega), hj']; rfl
theorem yel {l : List CV} (h : ∀ j, j < l.length -> zhu (zf4 l j) = true) : yem l = -1 := by rw [yem, if_pos ((zio l).2 h)]
theorem yja (l : List CV) : (0 <= yem l) = (zf1 l = false) := by
 unfold yem
 split
 · rename_i h; rw [h]; simp
 · rename_i h; simp at h; rw [h]; simp
def yoi (N : Nat) (L : za8) : zcu := (67, fun xs => match xs with
 | [.agg [.int .i64 k, .int .u64 n, .str s, x]] => some (L okL x /\ L2 L zoi N (mkV L k n s x), .bool (L not (L zhu (mkV L k n s x))))
 | _ => none)
def yoe (N : Nat) (L : za8) : zcu := (77, fun xs => match xs with
 | [x, .fn 67 [] []] => some (L okL x /\ L2 L zqp N (L rdL x), .int .i64 (L yem (L rdL x)))
 | _ => none)
def yqh (N : Nat) (L : za8) : zcu := (66, fun xs => match xs with
 | [x, .fn 67 [] []] => some (L okL x /\ L2 L zqp N (L rdL x), .bool (L not (L zf1 (L rdL x))))
 | _ => none)
def zml (N : Nat) (L : za8) : zcu := (50, fun xs => match xs with
 | [.agg [.int .i64 k, .int .u64 n, .str s, x]] => some (L okL x /\ L2 L zoi N (mkV L k n s x), .bool (L zhu (mkV L k n s x)))
 | _ => none)
theorem ypw (l : List CV) : ieq ((lenL l : Nat) : Int) 0 = l.isEmpty := by
 cases l with
 | nil => rfl
 | cons v l =>
   simp [lenL, ieq]
   omega
theorem yn1 (a b : Int) : (ile a b = false) = ¬ a <= b := by simp [ile]
theorem yqt {N : Nat} (ih : zd7 Tryz.prog (zml N std)) : zd7 Tryz.prog (yoi N std) := by
 intro xs p r h hp
 unfold yoi at h
 simp only at h
 split at h
 rotate_left
 · cases h
 rename_i k n s x
 cases h
 obtain ⟨ho, hz⟩ := hp
 refine yoj ho ?_
 rw [show mkV std k n s x = .mk k n s (rdL x) from rfl] at hz |-
 generalize rdL x = l at hz |-
 have hz : zoi N (.mk k n s l) := hz
 refine zas (xs := fun L => [.agg [.int .i64 k, .int .u64 n, .str s, cvL L l]]) (T := tt) (S := fun L => zbe [zml N L]) (lo := noA) (lb := noA) 5 (fn := Tryz.f67) rfl rfl (by kernel_rfl) (by kernel_rfl) rfl zae (za7 ⟨ih, trivial⟩) (by kernel_rfl) ?_
 intro L P' Q' hL hP hQ
 (cbv; try simp only [syT, true_and, and_true])
 (subst hL; subst hQ; simp only [L2, L3, std] at *; try simp only [syS, reduceCtorEq, Int.reduceToNat, Int.reduceAdd, Int.reduceSub] at *)
 rw [rdl, mkl]
 exact ⟨⟨okl l, hz⟩, rfl⟩
def ifA (L : za8) (l : List CV) : Nat -> St -> Option Ann := fun id s => match id with
 | 0 => some ⟨Nat, fun i => [(8, .int .i64 (L zac i))], fun i => [], [0, 1, 6, 7], [],
     fun i => L2 L ynt l i, fun i => L2 L (fun (l : List CV) (i : Nat) => l.length - i) l i⟩
 | _ => none
theorem yq6 {N : Nat} (ih : zd7 Tryz.prog (yoi N std)) : zd7 Tryz.prog (yoe N std) := by
 intro xs p r h hp
 unfold yoe at h
 simp only at h
 split at h
 rotate_left
 · cases h
 rename_i x
 cases h
 obtain ⟨ho, hz⟩ := hp
 refine yok ho ?_
 have hz : zqp N (rdL x) := hz
 show zab _ _ _ (.int .i64 (yem (rdL x)))
 generalize rdL x = l at hz |-
 refine zas (T := tt) (S := fun L => zbe [yoi N L]) (lo := fun L => ifA L l) (lb := noA) 5 (fn := Tryz.f77) (xs := fun L => [cvL L l, .fn 67 [] []]) rfl rfl (by kernel_rfl) (by kernel_rfl) rfl zae
   (za7 ⟨ih, trivial⟩) (by kernel_rfl) ?_
 intro L P' Q' hL hP hQ
 (cbv; try simp only [syT, true_and, and_true])
 refine ⟨⟨0, ?_⟩, fun i hi => ?_⟩
 · (cbv; try simp only [syT, true_and, and_true])
   (subst hL; subst hQ; simp only [L2, L3, std] at *; try simp only [syS, reduceCtorEq, Int.reduceToNat, Int.reduceAdd, Int.reduceSub] at *)
   exact ⟨Nat.zero_le _, fun j hj => by omega⟩
 · cbv at hi
   (cbv; try simp only [syT, true_and, and_true])
   refine ⟨fun hlt => ⟨?_, ⟨?_, ?_⟩, fun hb => ?_, fun hb => ⟨i + 1, ?_⟩⟩, fun hge => ?_⟩
   · (subst hL; subst hQ; simp only [L2, L3, std] at *; try simp only [syS, reduceCtorEq, Int.reduceToNat, Int.reduceAdd, Int.reduceSub] at *)
     omega
   · (subst hL; subst hQ; simp only [L2, L3, std] at *; try simp only [syS, reduceCtorEq, Int.reduceToNat, Int.reduceAdd, Int.reduceSub] at *)
     exact (zn1 _).2
   · (subst hL; subst hQ; simp only [L2, L3, std] at *; try simp only [syS, reduceCtorEq, Int.reduceToNat, Int.reduceAdd, Int.reduceSub] at *)
     rw [zfd]
     exact zt2 hz (by have : lenL l = l.length := rfl; omega)
   · (subst hL; subst hQ; simp only [L2, L3, std] at *; try simp only [syS, reduceCtorEq, Int.reduceToNat, Int.reduceAdd, Int.reduceSub] at *)
     rw [zc9] at hb
     exact (yjb (by have : lenL l = l.length := rfl; omega) hi.2 hb).symm
   · (cbv; try simp only [syT, true_and, and_true])
     (subst hL; subst hQ; simp only [L2, L3, std] at *; try simp only [syS, reduceCtorEq, Int.reduceToNat, Int.reduceAdd, Int.reduceSub] at *)
     rw [zc9] at hb
     have : lenL l = l.length := rfl
     have := zm3 l
     have h1 := hz.1
     have h2 := hz.2
     refine ⟨by omega, ⟨by omega, fun j hj => ?_⟩, by omega⟩
     by_cases e : j = i
     · rw [e]; exact hb
     · exact hi.2 j (by omega)
   · (subst hL; subst hQ; simp only [L2, L3, std] at *; try simp only [syS, reduceCtorEq, Int.reduceToNat, Int.reduceAdd, Int.reduceSub] at *)
     have : lenL l = l.length := rfl
     exact (yel fun j hj => hi.2 j (by omega)).symm
theorem yqi {N : Nat} (ih : zd7 Tryz.prog (yoe N std)) : zd7 Tryz.prog (yqh N std) := by
 intro xs p r h hp
 unfold yqh at h
 simp only at h
 split at h
 rotate_left
 · cases h
 rename_i x
 cases h
 obtain ⟨ho, hz⟩ := hp
 refine yok ho ?_
 have hz : zqp N (rdL x) := hz
 show zab _ _ _ (.bool (not (zf1 (rdL x))))
 generalize rdL x = l at hz |-
 refine zas (xs := fun L => [cvL L l, .fn 67 [] []]) (T := tt) (S := fun L => zbe [yoe N L]) (lo := noA) (lb := noA) 5 (fn := Tryz.f66) rfl rfl (by kernel_rfl) (by kernel_rfl) rfl zae (za7 ⟨ih, trivial⟩) (by kernel_rfl) ?_
 intro L P' Q' hL hP hQ
 (cbv; try simp only [syT, true_and, and_true])
 (subst hL; subst hQ; simp only [L2, L3, std] at *; try simp only [syS, reduceCtorEq, Int.reduceToNat, Int.reduceAdd, Int.reduceSub] at *)
 rw [rdl]
 refine ⟨⟨okl l, hz⟩, ?_⟩
 have := yja l
 cases hb : zf1 l with
 | true =>
   rw [hb] at this
   simp only [Bool.true_eq_false, eq_iff_iff, iff_false] at this
   have h : ile 0 (yem l) = false := by rw [yn1]; exact this
   rw [h]; rfl
 | false =>
   rw [hb] at this
   simp only [eq_iff_iff, iff_true] at this
   simpa [ile] using this
theorem ybr : ∀ N, zd7 Tryz.prog (zml N std) := by
 intro N
 induction N with
 | zero =>
   intro xs p r h hp
   unfold zml at h
   simp only at h
   split at h
   · rename_i k n s x
     cases h
     have h1 : sizeC (mkV std k n s x) <= 0 := hp.2.1
     have := zem (mkV std k n s x)
     omega
   · cases h
 | succ N ih =>
   intro xs p r h hp
   unfold zml at h
   simp only at h
   split at h
   rotate_left
   · cases h
   rename_i k n s x
   cases h
   obtain ⟨ho, hz⟩ := hp
   refine yoj ho ?_
   rw [show mkV std k n s x = .mk k n s (rdL x) from rfl] at hz |-
   generalize rdL x = l at hz |-
   have hz : zoi (N + 1) (.mk k n s l) := hz
   refine zas (T := tt) (S := fun L => zbe [yqh N L]) (lo := noA) (lb := noA) 5 (fn := Tryz.f50) (xs := fun L => [.agg [.int .i64 k, .int .u64 n, .str s, cvL L l]]) rfl rfl (by kernel_rfl) (by kernel_rfl) rfl zae
     (za7 ⟨yqi (yq6 (yqt ih)), trivial⟩) (by kernel_rfl) ?_
   intro L P' Q' hL hP hQ
   (cbv; try simp only [syT, true_and, and_true])
   (subst hL; subst hQ; simp only [L2, L3, std] at *; try simp only [syS, reduceCtorEq, Int.reduceToNat, Int.reduceAdd, Int.reduceSub] at *)
   simp only [rdl, ypw]
   rw [zcf] at hz
   rw [zhu]
   by_cases h1 : k = 1
   · simp [h1]
     exact ⟨fun a _ => a, fun a b => absurd b a⟩
   · by_cases h2 : k = 2
     · simp [h2]
       exact ⟨fun a _ => a, fun a b => absurd b a⟩
     · by_cases h3 : k = 3
       · simp [h3]
         refine ⟨fun h4 => ⟨fun h5 => ⟨⟨okl l, hz.1⟩, by simp [h4, h5]⟩, fun h5 => by simp [h5]⟩, fun h4 => by simp [h4]⟩
       · simp [h1, h2, h3]
mutual
def wfV : CV -> Prop
 | .mk _ n s l => zef n /\ s.length <= 9223372036854775807 /\ yh2 l
def yh2 : List CV -> Prop
 | [] => True
 | v :: l => wfV v /\ yh2 l
end
theorem yfo : ∀ {l : List CV} {i : Nat}, yh2 l -> i < l.length -> wfV (zf4 l i)
 | [], i, _, h => by simp at h
 | v :: l, 0, w, _ => by rw [yh2] at w; exact w.1
 | v :: l, i + 1, w, h => by rw [yh2] at w; exact yfo (l := l) w.2 (by simpa using h)
theorem zi1 (l : List CV) : ∀ i, (zgl l i).length <= (zd8 l).length := by
 intro i
 have := zi2 (l.take i) (l.drop i)
 rw [List.take_append_drop] at this
 rw [this, List.length_append, zgl]; omega
theorem zaw (k n : Int) (s : List UInt8) (l : List CV) : zds (.mk k n s l) = zl9 k ++ if k = 1 then zbb n else if k = 2 then zbb s.length ++ s else zbb l.length ++ zd8 l := by rw [zds]
def zww (v : CV) : Prop := wfV v /\ (zds v).length <= 90000000
theorem zwn {k n : Int} {s : List UInt8} {l : List CV} : zww (.mk k n s l) = ((zef n /\ s.length <= 9223372036854775807 /\ yh2 l) /\ (zds (.mk k n s l)).length <= 90000000) := by
 unfold zww; rw [wfV]
theorem zh1 {x : Int} (h : 0 <= x) (h1 : x < 18446744073709551616) : x % 18446744073709551616 = x := Int.emod_eq_of_lt h h1
theorem zhz {k n : Int} {s : List UInt8} {l : List CV} (h : wfV (.mk k n s l)) : (s.length : Int) % 18446744073709551616 = s.length := by
 rw [wfV] at h
 exact zh1 (by omega) (by omega)
theorem zl6 {N : Nat} {k n : Int} {s : List UInt8} {l : List CV} (h : zoi (N + 1) (.mk k n s l)) : zef ((l.length : Nat) : Int) := by
 rw [zcf] at h
 have := zm3 l
 have h1 := h.1.1
 have h2 := h.1.2
 exact ⟨by omega, by omega⟩
theorem zi0 {N : Nat} {k n : Int} {s : List UInt8} {l : List CV} (h : zoi (N + 1) (.mk k n s l)) : ((lenL l : Nat) : Int) % 18446744073709551616 = ((l.length : Nat) : Int) := by
 have := zl6 h
 exact zh1 this.1 this.2
theorem yfp {k n : Int} {s : List UInt8} {l : List CV} (h : zww (.mk k n s l)) (h1 : k ≠ 1) (h2 : k ≠ 2) {i : Nat} (hi : i < l.length) : zww (zf4 l i) := by
 rw [zwn] at h
 refine ⟨yfo h.1.2.2 hi, ?_⟩
 have h3 := h.2
 have h4 := zdt hi
 have h5 := zi1 l (i + 1)
 rw [h4, List.length_append] at h5
 rw [zaw, if_neg h1, if_neg h2] at h3
 simp only [List.length_append] at h3
 omega
def zn2 (b : List UInt8) (k : Int) (l : List CV) (i : Nat) : List UInt8 := b ++ zl9 k ++ zbb l.length ++ zgl l i
def putA (L : za8) (b : List UInt8) (k : Int) (l : List CV) : Nat -> St -> Option Ann := fun id s => match id with
 | 1 => some ⟨Nat, fun i => [(23, .int .i64 (L zac i))], fun i => [(500000, .box 97 [.ref 500000 0, .sl 901 1 0 (L lenN (L (L3 L zn2 b k l) i))]), (901, .row 5 1 (L lenN (L (L3 L zn2 b k l) i)) (fun j _ => .int .u8 (L2 L zau (L (L3 L zn2 b k l) i) j)))], [0, 21, 22], [],
     fun i => L2 L (fun (l : List CV) i => i <= l.length) l i, fun i => L2 L (fun (l : List CV) (i : Nat) => l.length - i) l i⟩
 | _ => none
def zos (N : Nat) (L : za8) : zfq := (52, fun raw ob => match raw with
 | [.ref id 0, .agg [.int .i64 k, .int .u64 n, .str s, x]] => match ybq L ob id with
   | some none => some ⟨[.ref 500000 0, .agg [.int .i64 k, .int .u64 n, .str s, x]], yl0, L okL x /\ L2 L zoi N (mkV L k n s x) /\ L zww (mkV L k n s x), .tup [], zs4 L (L zds (mkV L k n s x))⟩
   | some (some l) => some ⟨[.ref 500000 0, .agg [.int .i64 k, .int .u64 n, .str s, x]], bld L l, L okL x /\ L2 L zoi N (mkV L k n s x) /\ L zww (mkV L k n s x) /\ L2 L zfa l (L zds (mkV L k n s x)), .tup [], zs4 L (L2 L za6 l (L zds (mkV L k n s x)))⟩
   | none => none
 | _ => none)
theorem ylt {b : List UInt8} {k n : Int} {s : List UInt8} {l : List CV} (h : zfa b (zds (.mk k n s l))) : zfa b (zc5 (k % 256)) := by
 rw [zaw] at h
 unfold zfa at h |-
 have : (zl9 k).length = 1 := rfl
 have : (zc5 (k % 256)).length = 1 := rfl
 rw [List.length_append] at h
 omega
theorem zso {b q : List UInt8} {k : Int} (h : zfa b (zl9 k ++ q)) : zfa (za6 b (zc5 (k % 256))) q := by
 unfold zfa za6 at *
 have : (zl9 k).length = 1 := rfl
 have : (zc5 (k % 256)).length = 1 := rfl
 rw [List.length_append] at h |-
 omega
theorem yfx {b q r : List UInt8} {k : Int} (h : zfa b (zl9 k ++ (q ++ r))) : zfa (za6 b (zc5 (k % 256))) q := by
 unfold zfa za6 at *
 have : (zl9 k).length = 1 := rfl
 have : (zc5 (k % 256)).length = 1 := rfl
 rw [List.length_append, List.length_append] at h
 rw [List.length_append]
 omega
theorem zsm {x y : List UInt8} (h : x = y) : (lenN x = lenN y /\ ∀ i j : Nat, i < lenN y -> j < 1 -> AV.int .u8 (zau x i) = AV.int .u8 (zau y i)) /\ lenN x = lenN y := by
 subst h; exact ⟨⟨rfl, fun _ _ _ _ => rfl⟩, rfl⟩
theorem yfu {b q t : List UInt8} {k : Int} (h : t = zl9 k ++ q) : (lenN (za6 (za6 b (zc5 (k % 256))) q) = lenN (za6 b t) /\ ∀ i j : Nat, i < lenN (za6 b t) -> j < 1 -> AV.int .u8 (zau (za6 (za6 b (zc5 (k % 256))) q) i) = AV.int .u8 (zau (za6 b t) i)) /\ lenN (za6 (za6 b (zc5 (k % 256))) q) = lenN (za6 b t) :=
 zsm (by rw [h]; unfold za6; rw [List.append_assoc]; rfl)
theorem yfv {q t : List UInt8} {k : Int} (h : t = zl9 k ++ q) : (lenN (za6 (zc5 (k % 256)) q) = lenN t /\ ∀ i j : Nat, i < lenN t -> j < 1 -> AV.int .u8 (zau (za6 (zc5 (k % 256)) q) i) = AV.int .u8 (zau t i)) /\ lenN (za6 (zc5 (k % 256)) q) = lenN t :=
 zsm (by rw [h]; rfl)
theorem yi1 {N : Nat} (ih : zcb Tryz.prog (zos N std)) (b : List UInt8) (k n : Int) (s : List UInt8) (l : List CV) (hz : zoi (N + 1) (.mk k n s l)) (hw : zww (.mk k n s l)) (hb : zfa b (zds (.mk k n s l))) :
   zaq Tryz.prog 52 [.ref 500000 0, .agg [.int .i64 k, .int .u64 n, .str s, cvL std l]] (bld std b) (.tup []) (zs4 std (za6 b (zds (.mk k n s l)))) := by
 refine zak (T := tt) (S := fun L => zb3 [zi3 L] [yo7 L, yo5 L, zos N L]) (lo := fun L => putA L b k l) (lb := noA) 5 (fn := Tryz.f52) (xs := fun L => [.ref 500000 0, .agg [.int .i64 k, .int .u64 n, .str s, cvL L l]]) (rts := fun _ => []) (O := fun L => bld L b) (O1 := fun L => zs4 L (L2 L za6 b (L zds (.mk k n s l))))
   rfl rfl (by kernel_rfl) (by kernel_rfl) (by kernel_rfl) zae (zaa ⟨zg7, trivial⟩ ⟨zwo, zwj, ih, trivial⟩) (by kernel_rfl) ?_
 intro L P' Q' hL hP hQ
 have hB : ∀ b : List UInt8, L (L bytesOf (L lenN b)) (fun i => (AV.int .u8 (L2 L zau b i)).toI) = b := by subst hL; exact zf0
 (cbv; try simp only [syT, true_and, and_true])
 simp only [hB]
 refine ⟨⟨trivial, fun _ _ _ _ => trivial⟩, trivial, ⟨?_, ?_⟩, fun h1 => ⟨?_, ⟨trivial, fun _ _ _ _ => trivial⟩, trivial, ?_, ?_⟩, fun h1 => ⟨fun h2 => ⟨?_, ?_, ⟨trivial, fun _ _ _ _ => trivial⟩, trivial, ?_, ?_⟩, fun h2 => ⟨?_, ⟨trivial, fun _ _ _ _ => trivial⟩, trivial, ?_, ⟨0, ?_⟩, fun i hi => ?_⟩⟩⟩
 · (subst hL; subst hQ; simp only [L2, L3, std] at *; try simp only [syS, reduceCtorEq, Int.reduceToNat, Int.reduceAdd, Int.reduceSub] at *)
   exact ⟨Int.emod_nonneg _ (by omega), Int.emod_lt_of_pos _ (by omega)⟩
 · (subst hL; subst hQ; simp only [L2, L3, std] at *; try simp only [syS, reduceCtorEq, Int.reduceToNat, Int.reduceAdd, Int.reduceSub] at *)
   exact ylt hb
 · (subst hL; subst hQ; simp only [L2, L3, std] at *; try simp only [syS, reduceCtorEq, Int.reduceToNat, Int.reduceAdd, Int.reduceSub] at *)
   rw [zwn] at hw
   exact hw.1.1
 · (subst hL; subst hQ; simp only [L2, L3, std] at *; try simp only [syS, reduceCtorEq, Int.reduceToNat, Int.reduceAdd, Int.reduceSub] at *)
   rw [zaw, if_pos h1] at hb
   exact zso hb
 · (subst hL; subst hQ; simp only [L2, L3, std] at *; try simp only [syS, reduceCtorEq, Int.reduceToNat, Int.reduceAdd, Int.reduceSub] at *)
   exact yfu (by rw [zaw, if_pos h1])
 · (subst hL; subst hQ; simp only [L2, L3, std] at *; try simp only [syS, reduceCtorEq, Int.reduceToNat, Int.reduceAdd, Int.reduceSub] at *)
   rw [zwn] at hw
   rw [zh1 (by omega) (by omega)]
   exact ⟨by omega, by omega⟩
 · (subst hL; subst hQ; simp only [L2, L3, std] at *; try simp only [syS, reduceCtorEq, Int.reduceToNat, Int.reduceAdd, Int.reduceSub] at *)
   rw [zhz hw.1]
   have h3 := hw.2
   rw [zaw, if_neg h1, if_pos h2] at h3
   simp at h3 |-
   omega
 · (subst hL; subst hQ; simp only [L2, L3, std] at *; try simp only [syS, reduceCtorEq, Int.reduceToNat, Int.reduceAdd, Int.reduceSub] at *)
   rw [zhz hw.1]
   rw [zaw, if_neg h1, if_pos h2] at hb
   exact zso hb
 · (subst hL; subst hQ; simp only [L2, L3, std] at *; try simp only [syS, reduceCtorEq, Int.reduceToNat, Int.reduceAdd, Int.reduceSub] at *)
   rw [zhz hw.1]
   exact yfu (by rw [zaw, if_neg h1, if_pos h2])
 · (subst hL; subst hQ; simp only [L2, L3, std] at *; try simp only [syS, reduceCtorEq, Int.reduceToNat, Int.reduceAdd, Int.reduceSub] at *)
   rw [zi0 hz]
   exact zl6 hz
 · (subst hL; subst hQ; simp only [L2, L3, std] at *; try simp only [syS, reduceCtorEq, Int.reduceToNat, Int.reduceAdd, Int.reduceSub] at *)
   rw [zi0 hz]
   rw [zaw, if_neg h1, if_neg h2] at hb
   exact yfx hb
 · (cbv; try simp only [syT, true_and, and_true])
   (subst hL; subst hQ; simp only [L2, L3, std] at *; try simp only [syS, reduceCtorEq, Int.reduceToNat, Int.reduceAdd, Int.reduceSub] at *)
   rw [zi0 hz]
   have e : za6 (za6 b (zc5 (k % 256))) (zbb ((l.length : Nat) : Int)) = zn2 b k l 0 := by
     rw [zn2, zgl, List.take_zero, zd8, List.append_nil]; rfl
   rw [e]
   exact ⟨⟨rfl, fun _ _ _ _ => rfl⟩, rfl, Nat.zero_le _⟩
 · cbv at hi
   (cbv; try simp only [syT, true_and, and_true])
   simp only [hB]
   refine ⟨fun hlt => ⟨?_, ⟨trivial, fun _ _ _ _ => trivial⟩, trivial, fun _ _ _ _ => trivial, ⟨?_, ?_, ?_, ?_⟩, ⟨i + 1, ?_⟩⟩, fun hge => ?_⟩
   · (subst hL; subst hQ; simp only [L2, L3, std] at *; try simp only [syS, reduceCtorEq, Int.reduceToNat, Int.reduceAdd, Int.reduceSub] at *)
     omega
   · (subst hL; subst hQ; simp only [L2, L3, std] at *; try simp only [syS, reduceCtorEq, Int.reduceToNat, Int.reduceAdd, Int.reduceSub] at *)
     exact (zn1 _).2
   · (subst hL; subst hQ; simp only [L2, L3, std] at *; try simp only [syS, reduceCtorEq, Int.reduceToNat, Int.reduceAdd, Int.reduceSub] at *)
     rw [zfd]
     rw [zcf] at hz
     exact zt2 hz.1 (by have : lenL l = l.length := rfl; omega)
   · (subst hL; subst hQ; simp only [L2, L3, std] at *; try simp only [syS, reduceCtorEq, Int.reduceToNat, Int.reduceAdd, Int.reduceSub] at *)
     rw [zc9]
     exact yfp hw (by omega) (by omega) (by have : lenL l = l.length := rfl; omega)
   · (subst hL; subst hQ; simp only [L2, L3, std] at *; try simp only [syS, reduceCtorEq, Int.reduceToNat, Int.reduceAdd, Int.reduceSub] at *)
     rw [zc9]
     have h4 := zdt (l := l) (i := i) (by have : lenL l = l.length := rfl; omega)
     have h5 := zi1 l (i + 1)
     rw [h4, List.length_append] at h5
     rw [zaw, if_neg h1, if_neg h2] at hb
     unfold zfa at hb |-
     simp only [List.length_append, zn2] at hb |-
     omega
   · (cbv; try simp only [syT, true_and, and_true])
     (subst hL; subst hQ; simp only [L2, L3, std] at *; try simp only [syS, reduceCtorEq, Int.reduceToNat, Int.reduceAdd, Int.reduceSub] at *)
     have : lenL l = l.length := rfl
     have := zm3 l
     rw [zcf] at hz
     have h4 := hz.1.1
     have h5 := hz.1.2
     rw [zc9]
     have e : za6 (zn2 b k l i) (zds (zf4 l i)) = zn2 b k l (i + 1) := by
       rw [zn2, zn2, zdt (by omega)]; unfold za6; simp only [List.append_assoc]
     rw [e]
     exact ⟨⟨rfl, fun _ _ _ _ => rfl⟩, rfl, by omega, by omega, by omega⟩
   · (subst hL; subst hQ; simp only [L2, L3, std] at *; try simp only [syS, reduceCtorEq, Int.reduceToNat, Int.reduceAdd, Int.reduceSub] at *)
     have : lenL l = l.length := rfl
     have hil : i = l.length := by omega
     exact zsm (by rw [zaw, if_neg h1, if_neg h2, zn2, hil, zgl, List.take_length]; unfold za6; simp only [List.append_assoc])
theorem yi2 {N : Nat} (ih : zcb Tryz.prog (zos N std)) (k n : Int) (s : List UInt8) (l : List CV) (hz : zoi (N + 1) (.mk k n s l)) (hw : zww (.mk k n s l)) :
   zaq Tryz.prog 52 [.ref 500000 0, .agg [.int .i64 k, .int .u64 n, .str s, cvL std l]] yl0 (.tup []) (zs4 std (zds (.mk k n s l))) := by
 refine zak (T := tt) (S := fun L => zb3 [zi3 L] [yo7 L, yo5 L, zos N L]) (lo := fun L => putA L [] k l) (lb := noA) 5 (fn := Tryz.f52) (xs := fun L => [.ref 500000 0, .agg [.int .i64 k, .int .u64 n, .str s, cvL L l]]) (rts := fun _ => []) (O := fun L => yl0) (O1 := fun L => zs4 L (L zds (.mk k n s l)))
   rfl rfl (by kernel_rfl) (by kernel_rfl) (by kernel_rfl) zae (zaa ⟨zg7, trivial⟩ ⟨zwo, zwj, ih, trivial⟩) (by kernel_rfl) ?_
 intro L P' Q' hL hP hQ
 have hb : zfa [] (zds (.mk k n s l)) := by have := hw.2; unfold zfa; simp; omega
 have hB : ∀ b : List UInt8, L (L bytesOf (L lenN b)) (fun i => (AV.int .u8 (L2 L zau b i)).toI) = b := by subst hL; exact zf0
 (cbv; try simp only [syT, true_and, and_true])
 simp only [hB]
 refine ⟨?_, fun h1 => ⟨?_, ⟨trivial, fun _ _ _ _ => trivial⟩, trivial, ?_, ?_⟩, fun h1 => ⟨fun h2 => ⟨?_, ?_, ⟨trivial, fun _ _ _ _ => trivial⟩, trivial, ?_, ?_⟩, fun h2 => ⟨?_, ⟨trivial, fun _ _ _ _ => trivial⟩, trivial, ?_, ⟨0, ?_⟩, fun i hi => ?_⟩⟩⟩
 · (subst hL; subst hQ; simp only [L2, L3, std] at *; try simp only [syS, reduceCtorEq, Int.reduceToNat, Int.reduceAdd, Int.reduceSub] at *)
   exact ⟨Int.emod_nonneg _ (by omega), Int.emod_lt_of_pos _ (by omega)⟩
 · (subst hL; subst hQ; simp only [L2, L3, std] at *; try simp only [syS, reduceCtorEq, Int.reduceToNat, Int.reduceAdd, Int.reduceSub] at *)
   rw [zwn] at hw
   exact hw.1.1
 · (subst hL; subst hQ; simp only [L2, L3, std] at *; try simp only [syS, reduceCtorEq, Int.reduceToNat, Int.reduceAdd, Int.reduceSub] at *)
   rw [zaw, if_pos h1] at hb
   exact zso hb
 · (subst hL; subst hQ; simp only [L2, L3, std] at *; try simp only [syS, reduceCtorEq, Int.reduceToNat, Int.reduceAdd, Int.reduceSub] at *)
   exact yfv (by rw [zaw, if_pos h1])
 · (subst hL; subst hQ; simp only [L2, L3, std] at *; try simp only [syS, reduceCtorEq, Int.reduceToNat, Int.reduceAdd, Int.reduceSub] at *)
   rw [zwn] at hw
   rw [zh1 (by omega) (by omega)]
   exact ⟨by omega, by omega⟩
 · (subst hL; subst hQ; simp only [L2, L3, std] at *; try simp only [syS, reduceCtorEq, Int.reduceToNat, Int.reduceAdd, Int.reduceSub] at *)
   rw [zhz hw.1]
   have h3 := hw.2
   rw [zaw, if_neg h1, if_pos h2] at h3
   simp at h3 |-
   omega
 · (subst hL; subst hQ; simp only [L2, L3, std] at *; try simp only [syS, reduceCtorEq, Int.reduceToNat, Int.reduceAdd, Int.reduceSub] at *)
   rw [zhz hw.1]
   rw [zaw, if_neg h1, if_pos h2] at hb
   exact zso hb
 · (subst hL; subst hQ; simp only [L2, L3, std] at *; try simp only [syS, reduceCtorEq, Int.reduceToNat, Int.reduceAdd, Int.reduceSub] at *)
   rw [zhz hw.1]
   exact yfv (by rw [zaw, if_neg h1, if_pos h2])
 · (subst hL; subst hQ; simp only [L2, L3, std] at *; try simp only [syS, reduceCtorEq, Int.reduceToNat, Int.reduceAdd, Int.reduceSub] at *)
   rw [zi0 hz]
   exact zl6 hz
 · (subst hL; subst hQ; simp only [L2, L3, std] at *; try simp only [syS, reduceCtorEq, Int.reduceToNat, Int.reduceAdd, Int.reduceSub] at *)
   rw [zi0 hz]
   rw [zaw, if_neg h1, if_neg h2] at hb
   exact yfx hb
 · (cbv; try simp only [syT, true_and, and_true])
   (subst hL; subst hQ; simp only [L2, L3, std] at *; try simp only [syS, reduceCtorEq, Int.reduceToNat, Int.reduceAdd, Int.reduceSub] at *)
   rw [zi0 hz]
   have e : za6 (zc5 (k % 256)) (zbb ((l.length : Nat) : Int)) = zn2 [] k l 0 := by
     rw [zn2, zgl, List.take_zero, zd8, List.append_nil]; rfl
   rw [e]
   exact ⟨⟨rfl, fun _ _ _ _ => rfl⟩, rfl, Nat.zero_le _⟩
 · cbv at hi
   (cbv; try simp only [syT, true_and, and_true])
   simp only [hB]
   refine ⟨fun hlt => ⟨?_, ⟨trivial, fun _ _ _ _ => trivial⟩, trivial, fun _ _ _ _ => trivial, ⟨?_, ?_, ?_, ?_⟩, ⟨i + 1, ?_⟩⟩, fun hge => ?_⟩
   · (subst hL; subst hQ; simp only [L2, L3, std] at *; try simp only [syS, reduceCtorEq, Int.reduceToNat, Int.reduceAdd, Int.reduceSub] at *)
     omega
   · (subst hL; subst hQ; simp only [L2, L3, std] at *; try simp only [syS, reduceCtorEq, Int.reduceToNat, Int.reduceAdd, Int.reduceSub] at *)
     exact (zn1 _).2
   · (subst hL; subst hQ; simp only [L2, L3, std] at *; try simp only [syS, reduceCtorEq, Int.reduceToNat, Int.reduceAdd, Int.reduceSub] at *)
     rw [zfd]
     rw [zcf] at hz
     exact zt2 hz.1 (by have : lenL l = l.length := rfl; omega)
   · (subst hL; subst hQ; simp only [L2, L3, std] at *; try simp only [syS, reduceCtorEq, Int.reduceToNat, Int.reduceAdd, Int.reduceSub] at *)
     rw [zc9]
     exact yfp hw (by omega) (by omega) (by have : lenL l = l.length := rfl; omega)
   · (subst hL; subst hQ; simp only [L2, L3, std] at *; try simp only [syS, reduceCtorEq, Int.reduceToNat, Int.reduceAdd, Int.reduceSub] at *)
     rw [zc9]
     have h4 := zdt (l := l) (i := i) (by have : lenL l = l.length := rfl; omega)
     have h5 := zi1 l (i + 1)
     rw [h4, List.length_append] at h5
     rw [zaw, if_neg h1, if_neg h2] at hb
     unfold zfa at hb |-
     simp only [List.length_append, zn2] at hb |-
     omega
   · (cbv; try simp only [syT, true_and, and_true])
     (subst hL; subst hQ; simp only [L2, L3, std] at *; try simp only [syS, reduceCtorEq, Int.reduceToNat, Int.reduceAdd, Int.reduceSub] at *)
     have : lenL l = l.length := rfl
     have := zm3 l
     rw [zcf] at hz
     have h4 := hz.1.1
     have h5 := hz.1.2
     rw [zc9]
     have e : za6 (zn2 [] k l i) (zds (zf4 l i)) = zn2 [] k l (i + 1) := by
       rw [zn2, zn2, zdt (by omega)]; unfold za6; simp only [List.append_assoc]
     rw [e]
     exact ⟨⟨rfl, fun _ _ _ _ => rfl⟩, rfl, by omega, by omega, by omega⟩
   · (subst hL; subst hQ; simp only [L2, L3, std] at *; try simp only [syS, reduceCtorEq, Int.reduceToNat, Int.reduceAdd, Int.reduceSub] at *)
     have : lenL l = l.length := rfl
     have hil : i = l.length := by omega
     exact zsm (by rw [zaw, if_neg h1, if_neg h2, zn2, hil, zgl, List.take_length, List.nil_append, List.append_assoc])
theorem zza {P : Program} {f : FuncId} {xs ys : List AV} {O O1 : List (Nat × Ob)} {r : AV} (e : ∀ h D μ vs, RL h D μ xs vs -> RL h D μ ys vs) (hm : zaq P f ys O r O1) : zaq P f xs O r O1 :=
 fun D w μ vs hD hx => hm D w μ vs hD (e _ _ _ _ hx)
theorem yax : ∀ N, zcb Tryz.prog (zos N std) := by
 intro N
 induction N with
 | zero =>
   intro raw ob T hT hp
   unfold zos at hT
   simp only at hT
   split at hT
   · rename_i k n s x
     split at hT <;> cases hT
     · have h1 : sizeC (mkV std k n s x) <= 0 := hp.2.1.1
       have := zem (mkV std k n s x)
       omega
     · have h1 : sizeC (mkV std k n s x) <= 0 := hp.2.1.1
       have := zem (mkV std k n s x)
       omega
   · cases hT
 | succ N ih =>
   intro raw ob T hT hp
   unfold zos at hT
   simp only at hT
   split at hT
   rotate_left
   · cases hT
   rename_i k n s x
   split at hT <;> cases hT
   · refine zza (fun h D μ vs hr => rl_2 (fun v => yh6 hp.1) hr) ?_
     exact yi2 ih k n s (rdL x) hp.2.1 hp.2.2
   · refine zza (fun h D μ vs hr => rl_2 (fun v => yh6 hp.1) hr) ?_
     exact yi1 ih _ k n s (rdL x) hp.2.1 hp.2.2.1 hp.2.2.2
theorem zs6 {P : Program} {f : FuncId} {sz n : Nat} {get : Nat -> Nat -> AV} {r : AV} (h0 : n = 0 -> zab P f [.nils] r) (h1 : n = 0 -> zab P f [.emp] r) (h2 : 0 < n -> zab P f [.lst sz n get] r) : zab P f [.lst sz n get] r := by
 by_cases e : n = 0
 · subst e
   intro D w vs hD hx
   obtain ⟨v, hv⟩ : ∃ v, vs.toList = [v] := List.length_eq_one_iff.1 (by simpa using hx.1.symm)
   have : vs = #[v] := by rw [<- Array.toArray_toList (xs := vs), hv]
   subst this
   have hr := hx.2 0 _ _ rfl rfl
   have one : ∀ y, R w.heap D zap y v -> RL w.heap D zap [y] #[v] := fun y r => ⟨rfl, fun i x u hx hu => by
     match i with
     | 0 => cases hx; cases hu; exact r
     | i + 1 => simp at hx⟩
   cases hr with
   | lst0 _ _ a cap hn =>
     cases a with
     | none =>
       obtain rfl := hn rfl
       exact h0 rfl D w _ hD (one _ .nils)
     | some a => exact h1 rfl D w _ hD (one _ (.emp a cap))
   | lst _ _ _ b o cap vs' hD' hc hv' h1' hr' => exact h1 rfl D w _ hD (one _ (.emp _ cap))
 · exact h2 (by omega)
def zt1 (n : Int) : CV := .mk 1 n [] []
def zsn (l : List CV) : CV := .mk 3 0 [] l
def yia (L : za8) : zcu := (36, fun xs => match xs with | [.int .u64 n] => some (True, cvA L (L zt1 n)) | _ => none)
theorem ydf : zd7 Tryz.prog (yia std) := by
 intro xs p r h hp
 unfold yia at h
 simp only at h
 split at h
 rotate_left
 · cases h
 rename_i n
 cases h
 refine za9 (T := tt) (S := noS) (lo := noA) (lb := noA) 5 (fn := Tryz.f36) rfl rfl (by kernel_rfl) (by kernel_rfl) rfl zae (zdx _) (by kernel_rfl) ?_
 (intro L P1 Q1 hL hP hQ; cbv; subst hL; simp only [L2, L3, std, syT]; subst hQ)
 show zfk (.agg [.int .i64 1, .int .u64 n, .str [], .lst 4 0 (yau (zt1 n))]) _
 simp [zl1, zex, zgg, zij, zdp]
def ye3 (l : List CV) : Prop := l.length <= 1000000
def zrw (L : za8) : zcu := (49, fun xs => match xs with
 | [x] => some (L okL x /\ L ye3 (L rdL x), .lst 4 (L lenL (L rdL x)) (L zho (L rdL x)))
 | _ => none)
theorem zvx : zd7 Tryz.prog (zrw std) := by
 intro xs p r h hp
 unfold zrw at h
 simp only at h
 split at h
 rotate_left
 · cases h
 rename_i x
 cases h
 obtain ⟨ho, hz⟩ := hp
 refine yok ho ?_
 have hz : ye3 (rdL x) := hz
 show zab _ _ [cvL std (rdL x)] (.lst 4 (lenL (rdL x)) (zho (rdL x)))
 generalize rdL x = l at hz |-
 refine zs6 (fun h => ?_) (fun h => ?_) (fun h => ?_)
 · refine za9 (T := tt) (S := noS) (lo := noA) (lb := noA) 5 (fn := Tryz.f49) rfl rfl (by kernel_rfl) (by kernel_rfl) rfl zae (zdx _) (by kernel_rfl) ?_
   intro L P' Q' hL hP hQ
   (cbv; try simp only [syT, true_and, and_true])
   (subst hL; subst hQ; simp only [L2, L3, std] at *; try simp only [syS, reduceCtorEq, Int.reduceToNat, Int.reduceAdd, Int.reduceSub] at *)
   exact h.symm
 · refine za9 (T := tt) (S := noS) (lo := noA) (lb := noA) 5 (fn := Tryz.f49) rfl rfl (by kernel_rfl) (by kernel_rfl) rfl zae (zdx _) (by kernel_rfl) ?_
   intro L P' Q' hL hP hQ
   (cbv; try simp only [syT, true_and, and_true])
   (subst hL; subst hQ; simp only [L2, L3, std] at *; try simp only [syS, reduceCtorEq, Int.reduceToNat, Int.reduceAdd, Int.reduceSub] at *)
   exact ⟨by omega, h.symm, fun i j hi => by omega⟩
 · refine zas (T := tt) (S := noS) (lo := fun _ => noA std) (lb := noA) 5 (fn := Tryz.f49) (xs := fun L => [cvL L l]) rfl rfl (by kernel_rfl) (by kernel_rfl) rfl zae (zdx _) (by kernel_rfl) ?_
   intro L P' Q' hL hP hQ
   (cbv; try simp only [syT, true_and, and_true])
   (subst hL; subst hQ; simp only [L2, L3, std] at *; try simp only [syS, reduceCtorEq, Int.reduceToNat, Int.reduceAdd, Int.reduceSub] at *)
   have h1 : lenL l <= 1000000 := hz
   exact ⟨zvz h, by omega, fun i j hi hj => by rw [yav _ _ hj, zbs _ _ _ hi]⟩
def zzf (L : za8) : zcu := (34, fun xs => match xs with
 | [x] => some (L okL x /\ L ye3 (L rdL x), cvA L (L zsn (L rdL x)))
 | _ => none)
theorem zzh : zd7 Tryz.prog (zzf std) := by
 intro xs p r h hp
 unfold zzf at h
 simp only at h
 split at h
 rotate_left
 · cases h
 rename_i x
 cases h
 obtain ⟨ho, hz⟩ := hp
 refine yok ho ?_
 have hz : ye3 (rdL x) := hz
 show zab _ _ [cvL std (rdL x)] (cvA std (zsn (rdL x)))
 generalize rdL x = l at hz |-
 refine zas (T := tt) (S := fun L => zbe [zrw L]) (lo := fun _ => noA std) (lb := noA) 5 (fn := Tryz.f34) (xs := fun L => [cvL L l]) rfl rfl (by kernel_rfl) (by kernel_rfl) rfl zae (za7 ⟨zvx, trivial⟩) (by kernel_rfl) ?_
 intro L P' Q' hL hP hQ
 (cbv; try simp only [syT, true_and, and_true])
 (subst hL; subst hQ; simp only [L2, L3, std] at *; try simp only [syS, reduceCtorEq, Int.reduceToNat, Int.reduceAdd, Int.reduceSub] at *)
 rw [rdl]
 refine ⟨⟨okl l, hz⟩, ?_⟩
 show zfk (.agg [.int .i64 3, .int .u64 0, .str [], .lst 4 (lenL l) (zho l)]) _
 simp [zl1, zex, zgg, zik, zdp]
def yfz (v : CV) : Int := if zhu v = true then (if zfp v > 6 then 8 else if (zds v).length > 8192 then 5 else 0) else 10
def yi4 (v : CV) : List UInt8 := if yfz v = 0 then zds v else []
def yaw (N : Nat) (L : za8) : zcu := (38, fun xs => match xs with
 | [.agg [.int .i64 k, .int .u64 n, .str s, x]] => some (L okL x /\ L2 L zoi N (mkV L k n s x) /\ L zww (mkV L k n s x), .tup [.str (L yi4 (mkV L k n s x)), .int .i64 (L yfz (mkV L k n s x))])
 | _ => none)
theorem zvv (N : Nat) : zd7 Tryz.prog (yaw N std) := by
 intro xs p r h hp
 unfold yaw at h
 simp only at h
 split at h
 rotate_left
 · cases h
 rename_i k n s x
 cases h
 obtain ⟨ho, hz, hw⟩ := hp
 refine yoj ho ?_
 rw [show mkV std k n s x = .mk k n s (rdL x) from rfl] at hz hw |-
 generalize rdL x = l at hz hw |-
 have hz : zoi N (.mk k n s l) := hz
 have hw : zww (.mk k n s l) := hw
 refine zas (T := tt) (S := fun L => zb3 [zml N L, zq6 N L] [zos N L, yqr L, yqq L]) (lo := fun _ => noA std) (lb := noA) 5 (fn := Tryz.f38) (xs := fun L => [.agg [.int .i64 k, .int .u64 n, .str s, cvL L l]]) rfl rfl (by kernel_rfl) (by kernel_rfl) rfl zae
   (zaa ⟨ybr N, yas N, trivial⟩ ⟨yax N, yki, ykf, trivial⟩) (by kernel_rfl) ?_
 intro L P' Q' hL hP hQ
 have hB : ∀ b : List UInt8, L (L bytesOf (L lenN b)) (fun i => (AV.int .u8 (L2 L zau b i)).toI) = b := by subst hL; exact zf0
 (cbv; try simp only [syT, true_and, and_true])
 simp only [hB]
 (subst hL; subst hQ; simp only [L2, L3, std] at *; try simp only [syS, reduceCtorEq, Int.reduceToNat, Int.reduceAdd, Int.reduceSub] at *)
 simp only [rdl, mkl]
 refine ⟨⟨okl l, hz⟩, fun h1 => ?_, fun h1 => ⟨⟨okl l, hz⟩, fun h2 => ?_, fun h2 => ⟨⟨okl l, hz, hw⟩, fun h3 => ?_, fun h3 => ⟨⟨?_, hw.2⟩, ?_⟩⟩⟩⟩
 · simp [yi4, yfz, h1]
 · simp [yi4, yfz, h1, h2]
 · have h4 : ¬ 6 < zfp (.mk k n s l) := by omega
   have h5 : 8192 < (zds (.mk k n s l)).length := by omega
   simp [yi4, yfz, h1, h4, h5]
 · rw [zaw]; simp [zl9]
 · have h4 : ¬ 6 < zfp (.mk k n s l) := by omega
   have h5 : ¬ 8192 < (zds (.mk k n s l)).length := by omega
   simp [yi4, yfz, h1, h4, h5]
theorem one1 (v : CV) : rdL (.lst 4 1 fun i j => zc3 .dead [.int .i64 v.kd, .int .u64 v.nn, .str v.tx, .lst 4 (yca v) (yau v)] (i * 4 + j)) = [v] := by
 show [CV.mk v.kd v.nn v.tx (rdL (.lst 4 (yca v) (yau v)))] = [v]
 rw [zfd]
theorem yi8 (v : CV) : okL (.lst 4 1 fun i j => zc3 .dead [.int .i64 v.kd, .int .u64 v.nn, .str v.tx, .lst 4 (yca v) (yau v)] (i * 4 + j)) := by
 refine ⟨rfl, fun i hi => ?_⟩
 have : i = 0 := by omega
 subst this
 exact ⟨⟨_, rfl⟩, ⟨_, rfl⟩, ⟨_, rfl⟩, (zn1 v).2⟩
theorem yln : zbb 1 = [1] := by rw [zbb, show (1 : Int).toNat = 1 from rfl, zbw (by decide)]; rfl
theorem ylm : zbb 5 = [5] := by rw [zbb, show (5 : Int).toNat = 5 from rfl, zbw (by decide)]; rfl
theorem zro : zds (zsn [zt1 5]) = [3, 1, 1, 5] := by
 rw [zsn, zt1, zaw, if_neg (by decide), if_neg (by decide), zd8, zaw, if_pos rfl, zd8, ylm]
 show _ ++ (zbb 1 ++ _) = _
 rw [yln]; rfl
theorem yjr : zhu (zsn [zt1 5]) = true := by rw [zsn, zt1, zhu, zf1, zhu, zf1]; rfl
theorem yjq : zfp (zsn [zt1 5]) = 1 := by rw [zsn, zt1, zfp, zbf, zfp, zbf]; rfl
theorem yjo : sizeC (zsn [zt1 5]) = 2 := by rw [zsn, zt1, ze9, zbv, zel, ze9, zel]
theorem yan : yfz (zsn [zt1 5]) = 0 := by rw [yfz, yjr, yjq, zro]; rfl
theorem yjp : yi4 (zsn [zt1 5]) = [3, 1, 1, 5] := by rw [yi4, yan, zro]; rfl
theorem yqa : zww (zsn [zt1 5]) := by
 refine ⟨?_, by rw [zro]; decide⟩
 simp only [zsn, zt1, wfV, yh2, zef]
 decide
theorem zw4 : zab Tryz.prog 41 [] (.bool true) := by
 refine za9 (T := tt) (S := fun L => zbe [yia L, zzf L, yaw 100 L, tru 56]) (lo := noA) (lb := noA) 5 (fn := Tryz.f41) rfl rfl (by kernel_rfl) (by kernel_rfl) rfl zae (za7 ⟨ydf, zzh, zvv 100, zc1 zir, trivial⟩) (by kernel_rfl) ?_
 intro L P' Q' hL hP hQ
 (cbv; try simp only [syT, true_and, and_true])
 (subst hL; subst hQ; simp only [L2, L3, std] at *; try simp only [syS, reduceCtorEq, Int.reduceToNat, Int.reduceAdd, Int.reduceSub] at *)
 simp only [one1, zfd, zc9, yan, yjp]
 exact ⟨⟨yi8 _, by show (1 : Nat) <= 1000000; omega⟩, ⟨(zn1 _).2, ⟨by rw [yjo]; omega, by omega⟩, yqa⟩, fun _ => trivial, trivial⟩
theorem zwb : zab Tryz.prog 22 [] (.bool true) := by
 refine za9 (T := tt) (S := fun L => zbe [tru 41]) (lo := noA) (lb := noA) 5 (fn := Tryz.f22) rfl rfl (by kernel_rfl) (by kernel_rfl) rfl zae (za7 ⟨zc1 zw4, trivial⟩) (by kernel_rfl) ?_
 (intro L P1 Q1 hL hP hQ; cbv; subst hL; simp only [L2, L3, std, syT]; subst hQ)
 (simp only [syS, reduceCtorEq, Int.reduceToNat, Int.reduceAdd, Int.reduceSub])
def pr2 (a b : Int) : Pr := ⟨[a, b, 0, 0, 0, 0, 0, 0, 0, 0, 0, 0, 0, 0, 0, 0], rfl⟩
theorem zss {a b : Int} (ha : 0 <= a /\ a < 256) (hb : 0 <= b /\ b < 256) : zgm (pr2 a b) := by
 intro x hx
 have hx : x ∈ [a, b, 0, 0, 0, 0, 0, 0, 0, 0, 0, 0, 0, 0, 0, 0] := hx
 simp only [List.mem_cons, List.not_mem_nil, or_false] at hx
 omega
theorem rdg2 (a b : Int) : zcl (.agg [.int .u8 a, .int .u8 b, .int .u8 0, .int .u8 0, .int .u8 0, .int .u8 0, .int .u8 0, .int .u8 0, .int .u8 0, .int .u8 0, .int .u8 0, .int .u8 0, .int .u8 0, .int .u8 0, .int .u8 0, .int .u8 0]) /\ zal (.agg [.int .u8 a, .int .u8 b, .int .u8 0, .int .u8 0, .int .u8 0, .int .u8 0, .int .u8 0, .int .u8 0, .int .u8 0, .int .u8 0, .int .u8 0, .int .u8 0, .int .u8 0, .int .u8 0, .int .u8 0, .int .u8 0]) = pr2 a b := zbh (pr2 a b)
theorem zpd : zd6 [] := ⟨List.Pairwise.nil, fun e h => by cases h⟩
theorem zw1 : zab Tryz.prog 7 [] (.bool true) := by
 refine za9 (T := tt) (S := fun L => zbe [ye6 L, zvl L, tru 22, tru 23]) (lo := noA) (lb := noA) 5 (fn := Tryz.f7) rfl rfl (by kernel_rfl) (by kernel_rfl) rfl zae (za7 ⟨ztn, zjh, zc1 zwb, zc1 zw9, trivial⟩) (by kernel_rfl) ?_
 intro L P' Q' hL hP hQ
 have hE : ∀ (y : Pr) (d : Int) (h : Bool), L zbt (.agg [.int .u8 (L (L za0 y) 0), .int .u8 (L (L za0 y) 1), .int .u8 (L (L za0 y) 2), .int .u8 (L (L za0 y) 3), .int .u8 (L (L za0 y) 4), .int .u8 (L (L za0 y) 5), .int .u8 (L (L za0 y) 6), .int .u8 (L (L za0 y) 7), .int .u8 (L (L za0 y) 8), .int .u8 (L (L za0 y) 9), .int .u8 (L (L za0 y) 10), .int .u8 (L (L za0 y) 11), .int .u8 (L (L za0 y) 12), .int .u8 (L (L za0 y) 13), .int .u8 (L (L za0 y) 14), .int .u8 (L (L za0 y) 15), .int .i64 d, .bool h]) = L (L (L Le.mk y) d) h := by subst hL; exact fun y d h => (zbi ⟨y, d, h⟩).2
 have hEo : ∀ (y : Pr) (d : Int) (h : Bool), (L zdc (.agg [.int .u8 (L (L za0 y) 0), .int .u8 (L (L za0 y) 1), .int .u8 (L (L za0 y) 2), .int .u8 (L (L za0 y) 3), .int .u8 (L (L za0 y) 4), .int .u8 (L (L za0 y) 5), .int .u8 (L (L za0 y) 6), .int .u8 (L (L za0 y) 7), .int .u8 (L (L za0 y) 8), .int .u8 (L (L za0 y) 9), .int .u8 (L (L za0 y) 10), .int .u8 (L (L za0 y) 11), .int .u8 (L (L za0 y) 12), .int .u8 (L (L za0 y) 13), .int .u8 (L (L za0 y) 14), .int .u8 (L (L za0 y) 15), .int .i64 d, .bool h])) = True := by subst hL; exact fun y d h => eq_true (zbi ⟨y, d, h⟩).1
 have hF : ∀ (y : Pr) (d : Int) (h : Bool), L zbt (.agg [.int .u8 (L (L za1 [L (L za0 y) 0, L (L za0 y) 1, L (L za0 y) 2, L (L za0 y) 3, L (L za0 y) 4, L (L za0 y) 5, L (L za0 y) 6, L (L za0 y) 7, L (L za0 y) 8, L (L za0 y) 9, L (L za0 y) 10, L (L za0 y) 11, L (L za0 y) 12, L (L za0 y) 13, L (L za0 y) 14, L (L za0 y) 15]) 0), .int .u8 (L (L za1 [L (L za0 y) 0, L (L za0 y) 1, L (L za0 y) 2, L (L za0 y) 3, L (L za0 y) 4, L (L za0 y) 5, L (L za0 y) 6, L (L za0 y) 7, L (L za0 y) 8, L (L za0 y) 9, L (L za0 y) 10, L (L za0 y) 11, L (L za0 y) 12, L (L za0 y) 13, L (L za0 y) 14, L (L za0 y) 15]) 1), .int .u8 (L (L za1 [L (L za0 y) 0, L (L za0 y) 1, L (L za0 y) 2, L (L za0 y) 3, L (L za0 y) 4, L (L za0 y) 5, L (L za0 y) 6, L (L za0 y) 7, L (L za0 y) 8, L (L za0 y) 9, L (L za0 y) 10, L (L za0 y) 11, L (L za0 y) 12, L (L za0 y) 13, L (L za0 y) 14, L (L za0 y) 15]) 2), .int .u8 (L (L za1 [L (L za0 y) 0, L (L za0 y) 1, L (L za0 y) 2, L (L za0 y) 3, L (L za0 y) 4, L (L za0 y) 5, L (L za0 y) 6, L (L za0 y) 7, L (L za0 y) 8, L (L za0 y) 9, L (L za0 y) 10, L (L za0 y) 11, L (L za0 y) 12, L (L za0 y) 13, L (L za0 y) 14, L (L za0 y) 15]) 3), .int .u8 (L (L za1 [L (L za0 y) 0, L (L za0 y) 1, L (L za0 y) 2, L (L za0 y) 3, L (L za0 y) 4, L (L za0 y) 5, L (L za0 y) 6, L (L za0 y) 7, L (L za0 y) 8, L (L za0 y) 9, L (L za0 y) 10, L (L za0 y) 11, L (L za0 y) 12, L (L za0 y) 13, L (L za0 y) 14, L (L za0 y) 15]) 4), .int .u8 (L (L za1 [L (L za0 y) 0, L (L za0 y) 1, L (L za0 y) 2, L (L za0 y) 3, L (L za0 y) 4, L (L za0 y) 5, L (L za0 y) 6, L (L za0 y) 7, L (L za0 y) 8, L (L za0 y) 9, L (L za0 y) 10, L (L za0 y) 11, L (L za0 y) 12, L (L za0 y) 13, L (L za0 y) 14, L (L za0 y) 15]) 5), .int .u8 (L (L za1 [L (L za0 y) 0, L (L za0 y) 1, L (L za0 y) 2, L (L za0 y) 3, L (L za0 y) 4, L (L za0 y) 5, L (L za0 y) 6, L (L za0 y) 7, L (L za0 y) 8, L (L za0 y) 9, L (L za0 y) 10, L (L za0 y) 11, L (L za0 y) 12, L (L za0 y) 13, L (L za0 y) 14, L (L za0 y) 15]) 6), .int .u8 (L (L za1 [L (L za0 y) 0, L (L za0 y) 1, L (L za0 y) 2, L (L za0 y) 3, L (L za0 y) 4, L (L za0 y) 5, L (L za0 y) 6, L (L za0 y) 7, L (L za0 y) 8, L (L za0 y) 9, L (L za0 y) 10, L (L za0 y) 11, L (L za0 y) 12, L (L za0 y) 13, L (L za0 y) 14, L (L za0 y) 15]) 7), .int .u8 (L (L za1 [L (L za0 y) 0, L (L za0 y) 1, L (L za0 y) 2, L (L za0 y) 3, L (L za0 y) 4, L (L za0 y) 5, L (L za0 y) 6, L (L za0 y) 7, L (L za0 y) 8, L (L za0 y) 9, L (L za0 y) 10, L (L za0 y) 11, L (L za0 y) 12, L (L za0 y) 13, L (L za0 y) 14, L (L za0 y) 15]) 8), .int .u8 (L (L za1 [L (L za0 y) 0, L (L za0 y) 1, L (L za0 y) 2, L (L za0 y) 3, L (L za0 y) 4, L (L za0 y) 5, L (L za0 y) 6, L (L za0 y) 7, L (L za0 y) 8, L (L za0 y) 9, L (L za0 y) 10, L (L za0 y) 11, L (L za0 y) 12, L (L za0 y) 13, L (L za0 y) 14, L (L za0 y) 15]) 9), .int .u8 (L (L za1 [L (L za0 y) 0, L (L za0 y) 1, L (L za0 y) 2, L (L za0 y) 3, L (L za0 y) 4, L (L za0 y) 5, L (L za0 y) 6, L (L za0 y) 7, L (L za0 y) 8, L (L za0 y) 9, L (L za0 y) 10, L (L za0 y) 11, L (L za0 y) 12, L (L za0 y) 13, L (L za0 y) 14, L (L za0 y) 15]) 10), .int .u8 (L (L za1 [L (L za0 y) 0, L (L za0 y) 1, L (L za0 y) 2, L (L za0 y) 3, L (L za0 y) 4, L (L za0 y) 5, L (L za0 y) 6, L (L za0 y) 7, L (L za0 y) 8, L (L za0 y) 9, L (L za0 y) 10, L (L za0 y) 11, L (L za0 y) 12, L (L za0 y) 13, L (L za0 y) 14, L (L za0 y) 15]) 11), .int .u8 (L (L za1 [L (L za0 y) 0, L (L za0 y) 1, L (L za0 y) 2, L (L za0 y) 3, L (L za0 y) 4, L (L za0 y) 5, L (L za0 y) 6, L (L za0 y) 7, L (L za0 y) 8, L (L za0 y) 9, L (L za0 y) 10, L (L za0 y) 11, L (L za0 y) 12, L (L za0 y) 13, L (L za0 y) 14, L (L za0 y) 15]) 12), .int .u8 (L (L za1 [L (L za0 y) 0, L (L za0 y) 1, L (L za0 y) 2, L (L za0 y) 3, L (L za0 y) 4, L (L za0 y) 5, L (L za0 y) 6, L (L za0 y) 7, L (L za0 y) 8, L (L za0 y) 9, L (L za0 y) 10, L (L za0 y) 11, L (L za0 y) 12, L (L za0 y) 13, L (L za0 y) 14, L (L za0 y) 15]) 13), .int .u8 (L (L za1 [L (L za0 y) 0, L (L za0 y) 1, L (L za0 y) 2, L (L za0 y) 3, L (L za0 y) 4, L (L za0 y) 5, L (L za0 y) 6, L (L za0 y) 7, L (L za0 y) 8, L (L za0 y) 9, L (L za0 y) 10, L (L za0 y) 11, L (L za0 y) 12, L (L za0 y) 13, L (L za0 y) 14, L (L za0 y) 15]) 14), .int .u8 (L (L za1 [L (L za0 y) 0, L (L za0 y) 1, L (L za0 y) 2, L (L za0 y) 3, L (L za0 y) 4, L (L za0 y) 5, L (L za0 y) 6, L (L za0 y) 7, L (L za0 y) 8, L (L za0 y) 9, L (L za0 y) 10, L (L za0 y) 11, L (L za0 y) 12, L (L za0 y) 13, L (L za0 y) 14, L (L za0 y) 15]) 15), .int .i64 d, .bool h]) = L (L (L Le.mk y) d) h := by subst hL; exact fun y d h => (zbi ⟨y, d, h⟩).2
 have hFo : ∀ (y : Pr) (d : Int) (h : Bool), (L zdc (.agg [.int .u8 (L (L za1 [L (L za0 y) 0, L (L za0 y) 1, L (L za0 y) 2, L (L za0 y) 3, L (L za0 y) 4, L (L za0 y) 5, L (L za0 y) 6, L (L za0 y) 7, L (L za0 y) 8, L (L za0 y) 9, L (L za0 y) 10, L (L za0 y) 11, L (L za0 y) 12, L (L za0 y) 13, L (L za0 y) 14, L (L za0 y) 15]) 0), .int .u8 (L (L za1 [L (L za0 y) 0, L (L za0 y) 1, L (L za0 y) 2, L (L za0 y) 3, L (L za0 y) 4, L (L za0 y) 5, L (L za0 y) 6, L (L za0 y) 7, L (L za0 y) 8, L (L za0 y) 9, L (L za0 y) 10, L (L za0 y) 11, L (L za0 y) 12, L (L za0 y) 13, L (L za0 y) 14, L (L za0 y) 15]) 1), .int .u8 (L (L za1 [L (L za0 y) 0, L (L za0 y) 1, L (L za0 y) 2, L (L za0 y) 3, L (L za0 y) 4, L (L za0 y) 5, L (L za0 y) 6, L (L za0 y) 7, L (L za0 y) 8, L (L za0 y) 9, L (L za0 y) 10, L (L za0 y) 11, L (L za0 y) 12, L (L za0 y) 13, L (L za0 y) 14, L (L za0 y) 15]) 2), .int .u8 (L (L za1 [L (L za0 y) 0, L (L za0 y) 1, L (L za0 y) 2, L (L za0 y) 3, L (L za0 y) 4, L (L za0 y) 5, L (L za0 y) 6, L (L za0 y) 7, L (L za0 y) 8, L (L za0 y) 9, L (L za0 y) 10, L (L za0 y) 11, L (L za0 y) 12, L (L za0 y) 13, L (L za0 y) 14, L (L za0 y) 15]) 3), .int .u8 (L (L za1 [L (L za0 y) 0, L (L za0 y) 1, L (L za0 y) 2, L (L za0 y) 3, L (L za0 y) 4, L (L za0 y) 5, L (L za0 y) 6, L (L za0 y) 7, L (L za0 y) 8, L (L za0 y) 9, L (L za0 y) 10, L (L za0 y) 11, L (L za0 y) 12, L (L za0 y) 13, L (L za0 y) 14, L (L za0 y) 15]) 4), .int .u8 (L (L za1 [L (L za0 y) 0, L (L za0 y) 1, L (L za0 y) 2, L (L za0 y) 3, L (L za0 y) 4, L (L za0 y) 5, L (L za0 y) 6, L (L za0 y) 7, L (L za0 y) 8, L (L za0 y) 9, L (L za0 y) 10, L (L za0 y) 11, L (L za0 y) 12, L (L za0 y) 13, L (L za0 y) 14, L (L za0 y) 15]) 5), .int .u8 (L (L za1 [L (L za0 y) 0, L (L za0 y) 1, L (L za0 y) 2, L (L za0 y) 3, L (L za0 y) 4, L (L za0 y) 5, L (L za0 y) 6, L (L za0 y) 7, L (L za0 y) 8, L (L za0 y) 9, L (L za0 y) 10, L (L za0 y) 11, L (L za0 y) 12, L (L za0 y) 13, L (L za0 y) 14, L (L za0 y) 15]) 6), .int .u8 (L (L za1 [L (L za0 y) 0, L (L za0 y) 1, L (L za0 y) 2, L (L za0 y) 3, L (L za0 y) 4, L (L za0 y) 5, L (L za0 y) 6, L (L za0 y) 7, L (L za0 y) 8, L (L za0 y) 9, L (L za0 y) 10, L (L za0 y) 11, L (L za0 y) 12, L (L za0 y) 13, L (L za0 y) 14, L (L za0 y) 15]) 7), .int .u8 (L (L za1 [L (L za0 y) 0, L (L za0 y) 1, L (L za0 y) 2, L (L za0 y) 3, L (L za0 y) 4, L (L za0 y) 5, L (L za0 y) 6, L (L za0 y) 7, L (L za0 y) 8, L (L za0 y) 9, L (L za0 y) 10, L (L za0 y) 11, L (L za0 y) 12, L (L za0 y) 13, L (L za0 y) 14, L (L za0 y) 15]) 8), .int .u8 (L (L za1 [L (L za0 y) 0, L (L za0 y) 1, L (L za0 y) 2, L (L za0 y) 3, L (L za0 y) 4, L (L za0 y) 5, L (L za0 y) 6, L (L za0 y) 7, L (L za0 y) 8, L (L za0 y) 9, L (L za0 y) 10, L (L za0 y) 11, L (L za0 y) 12, L (L za0 y) 13, L (L za0 y) 14, L (L za0 y) 15]) 9), .int .u8 (L (L za1 [L (L za0 y) 0, L (L za0 y) 1, L (L za0 y) 2, L (L za0 y) 3, L (L za0 y) 4, L (L za0 y) 5, L (L za0 y) 6, L (L za0 y) 7, L (L za0 y) 8, L (L za0 y) 9, L (L za0 y) 10, L (L za0 y) 11, L (L za0 y) 12, L (L za0 y) 13, L (L za0 y) 14, L (L za0 y) 15]) 10), .int .u8 (L (L za1 [L (L za0 y) 0, L (L za0 y) 1, L (L za0 y) 2, L (L za0 y) 3, L (L za0 y) 4, L (L za0 y) 5, L (L za0 y) 6, L (L za0 y) 7, L (L za0 y) 8, L (L za0 y) 9, L (L za0 y) 10, L (L za0 y) 11, L (L za0 y) 12, L (L za0 y) 13, L (L za0 y) 14, L (L za0 y) 15]) 11), .int .u8 (L (L za1 [L (L za0 y) 0, L (L za0 y) 1, L (L za0 y) 2, L (L za0 y) 3, L (L za0 y) 4, L (L za0 y) 5, L (L za0 y) 6, L (L za0 y) 7, L (L za0 y) 8, L (L za0 y) 9, L (L za0 y) 10, L (L za0 y) 11, L (L za0 y) 12, L (L za0 y) 13, L (L za0 y) 14, L (L za0 y) 15]) 12), .int .u8 (L (L za1 [L (L za0 y) 0, L (L za0 y) 1, L (L za0 y) 2, L (L za0 y) 3, L (L za0 y) 4, L (L za0 y) 5, L (L za0 y) 6, L (L za0 y) 7, L (L za0 y) 8, L (L za0 y) 9, L (L za0 y) 10, L (L za0 y) 11, L (L za0 y) 12, L (L za0 y) 13, L (L za0 y) 14, L (L za0 y) 15]) 13), .int .u8 (L (L za1 [L (L za0 y) 0, L (L za0 y) 1, L (L za0 y) 2, L (L za0 y) 3, L (L za0 y) 4, L (L za0 y) 5, L (L za0 y) 6, L (L za0 y) 7, L (L za0 y) 8, L (L za0 y) 9, L (L za0 y) 10, L (L za0 y) 11, L (L za0 y) 12, L (L za0 y) 13, L (L za0 y) 14, L (L za0 y) 15]) 14), .int .u8 (L (L za1 [L (L za0 y) 0, L (L za0 y) 1, L (L za0 y) 2, L (L za0 y) 3, L (L za0 y) 4, L (L za0 y) 5, L (L za0 y) 6, L (L za0 y) 7, L (L za0 y) 8, L (L za0 y) 9, L (L za0 y) 10, L (L za0 y) 11, L (L za0 y) 12, L (L za0 y) 13, L (L za0 y) 14, L (L za0 y) 15]) 15), .int .i64 d, .bool h])) = True := by subst hL; exact fun y d h => eq_true (zbi ⟨y, d, h⟩).1
 have hEta : ∀ y : Le, L (L (L Le.mk (L Le.p y)) (L Le.d y)) (L Le.h y) = y := by subst hL; exact fun y => rfl
 have hMp : ∀ (y : Pr) (d : Int) (h : Bool), L Le.p (L (L (L Le.mk y) d) h) = y := by subst hL; exact fun y d h => rfl
 have hQ0 : ∀ y : Pr, L zal (.agg [.int .u8 (L (L za0 y) 0), .int .u8 (L (L za0 y) 1), .int .u8 (L (L za0 y) 2), .int .u8 (L (L za0 y) 3), .int .u8 (L (L za0 y) 4), .int .u8 (L (L za0 y) 5), .int .u8 (L (L za0 y) 6), .int .u8 (L (L za0 y) 7), .int .u8 (L (L za0 y) 8), .int .u8 (L (L za0 y) 9), .int .u8 (L (L za0 y) 10), .int .u8 (L (L za0 y) 11), .int .u8 (L (L za0 y) 12), .int .u8 (L (L za0 y) 13), .int .u8 (L (L za0 y) 14), .int .u8 (L (L za0 y) 15)]) = y := by subst hL; exact fun y => (zbh y).2
 have hQo : ∀ y : Pr, (L zcl (.agg [.int .u8 (L (L za0 y) 0), .int .u8 (L (L za0 y) 1), .int .u8 (L (L za0 y) 2), .int .u8 (L (L za0 y) 3), .int .u8 (L (L za0 y) 4), .int .u8 (L (L za0 y) 5), .int .u8 (L (L za0 y) 6), .int .u8 (L (L za0 y) 7), .int .u8 (L (L za0 y) 8), .int .u8 (L (L za0 y) 9), .int .u8 (L (L za0 y) 10), .int .u8 (L (L za0 y) 11), .int .u8 (L (L za0 y) 12), .int .u8 (L (L za0 y) 13), .int .u8 (L (L za0 y) 14), .int .u8 (L (L za0 y) 15)])) = True := by subst hL; exact fun y => eq_true (zbh y).1
 have hQ1 : ∀ y : Pr, L zal (.agg [.int .u8 (L (L za1 [L (L za0 y) 0, L (L za0 y) 1, L (L za0 y) 2, L (L za0 y) 3, L (L za0 y) 4, L (L za0 y) 5, L (L za0 y) 6, L (L za0 y) 7, L (L za0 y) 8, L (L za0 y) 9, L (L za0 y) 10, L (L za0 y) 11, L (L za0 y) 12, L (L za0 y) 13, L (L za0 y) 14, L (L za0 y) 15]) 0), .int .u8 (L (L za1 [L (L za0 y) 0, L (L za0 y) 1, L (L za0 y) 2, L (L za0 y) 3, L (L za0 y) 4, L (L za0 y) 5, L (L za0 y) 6, L (L za0 y) 7, L (L za0 y) 8, L (L za0 y) 9, L (L za0 y) 10, L (L za0 y) 11, L (L za0 y) 12, L (L za0 y) 13, L (L za0 y) 14, L (L za0 y) 15]) 1), .int .u8 (L (L za1 [L (L za0 y) 0, L (L za0 y) 1, L (L za0 y) 2, L (L za0 y) 3, L (L za0 y) 4, L (L za0 y) 5, L (L za0 y) 6, L (L za0 y) 7, L (L za0 y) 8, L (L za0 y) 9, L (L za0 y) 10, L (L za0 y) 11, L (L za0 y) 12, L (L za0 y) 13, L (L za0 y) 14, L (L za0 y) 15]) 2), .int .u8 (L (L za1 [L (L za0 y) 0, L (L za0 y) 1, L (L za0 y) 2, L (L za0 y) 3, L (L za0 y) 4, L (L za0 y) 5, L (L za0 y) 6, L (L za0 y) 7, L (L za0 y) 8, L (L za0 y) 9, L (L za0 y) 10, L (L za0 y) 11, L (L za0 y) 12, L (L za0 y) 13, L (L za0 y) 14, L (L za0 y) 15]) 3), .int .u8 (L (L za1 [L (L za0 y) 0, L (L za0 y) 1, L (L za0 y) 2, L (L za0 y) 3, L (L za0 y) 4, L (L za0 y) 5, L (L za0 y) 6, L (L za0 y) 7, L (L za0 y) 8, L (L za0 y) 9, L (L za0 y) 10, L (L za0 y) 11, L (L za0 y) 12, L (L za0 y) 13, L (L za0 y) 14, L (L za0 y) 15]) 4), .int .u8 (L (L za1 [L (L za0 y) 0, L (L za0 y) 1, L (L za0 y) 2, L (L za0 y) 3, L (L za0 y) 4, L (L za0 y) 5, L (L za0 y) 6, L (L za0 y) 7, L (L za0 y) 8, L (L za0 y) 9, L (L za0 y) 10, L (L za0 y) 11, L (L za0 y) 12, L (L za0 y) 13, L (L za0 y) 14, L (L za0 y) 15]) 5), .int .u8 (L (L za1 [L (L za0 y) 0, L (L za0 y) 1, L (L za0 y) 2, L (L za0 y) 3, L (L za0 y) 4, L (L za0 y) 5, L (L za0 y) 6, L (L za0 y) 7, L (L za0 y) 8, L (L za0 y) 9, L (L za0 y) 10, L (L za0 y) 11, L (L za0 y) 12, L (L za0 y) 13, L (L za0 y) 14, L (L za0 y) 15]) 6), .int .u8 (L (L za1 [L (L za0 y) 0, L (L za0 y) 1, L (L za0 y) 2, L (L za0 y) 3, L (L za0 y) 4, L (L za0 y) 5, L (L za0 y) 6, L (L za0 y) 7, L (L za0 y) 8, L (L za0 y) 9, L (L za0 y) 10, L (L za0 y) 11, L (L za0 y) 12, L (L za0 y) 13, L (L za0 y) 14, L (L za0 y) 15]) 7), .int .u8 (L (L za1 [L (L za0 y) 0, L (L za0 y) 1, L (L za0 y) 2, L (L za0 y) 3, L (L za0 y) 4, L (L za0 y) 5, L (L za0 y) 6, L (L za0 y) 7, L (L za0 y) 8, L (L za0 y) 9, L (L za0 y) 10, L (L za0 y) 11, L (L za0 y) 12, L (L za0 y) 13, L (L za0 y) 14, L (L za0 y) 15]) 8), .int .u8 (L (L za1 [L (L za0 y) 0, L (L za0 y) 1, L (L za0 y) 2, L (L za0 y) 3, L (L za0 y) 4, L (L za0 y) 5, L (L za0 y) 6, L (L za0 y) 7, L (L za0 y) 8, L (L za0 y) 9, L (L za0 y) 10, L (L za0 y) 11, L (L za0 y) 12, L (L za0 y) 13, L (L za0 y) 14, L (L za0 y) 15]) 9), .int .u8 (L (L za1 [L (L za0 y) 0, L (L za0 y) 1, L (L za0 y) 2, L (L za0 y) 3, L (L za0 y) 4, L (L za0 y) 5, L (L za0 y) 6, L (L za0 y) 7, L (L za0 y) 8, L (L za0 y) 9, L (L za0 y) 10, L (L za0 y) 11, L (L za0 y) 12, L (L za0 y) 13, L (L za0 y) 14, L (L za0 y) 15]) 10), .int .u8 (L (L za1 [L (L za0 y) 0, L (L za0 y) 1, L (L za0 y) 2, L (L za0 y) 3, L (L za0 y) 4, L (L za0 y) 5, L (L za0 y) 6, L (L za0 y) 7, L (L za0 y) 8, L (L za0 y) 9, L (L za0 y) 10, L (L za0 y) 11, L (L za0 y) 12, L (L za0 y) 13, L (L za0 y) 14, L (L za0 y) 15]) 11), .int .u8 (L (L za1 [L (L za0 y) 0, L (L za0 y) 1, L (L za0 y) 2, L (L za0 y) 3, L (L za0 y) 4, L (L za0 y) 5, L (L za0 y) 6, L (L za0 y) 7, L (L za0 y) 8, L (L za0 y) 9, L (L za0 y) 10, L (L za0 y) 11, L (L za0 y) 12, L (L za0 y) 13, L (L za0 y) 14, L (L za0 y) 15]) 12), .int .u8 (L (L za1 [L (L za0 y) 0, L (L za0 y) 1, L (L za0 y) 2, L (L za0 y) 3, L (L za0 y) 4, L (L za0 y) 5, L (L za0 y) 6, L (L za0 y) 7, L (L za0 y) 8, L (L za0 y) 9, L (L za0 y) 10, L (L za0 y) 11, L (L za0 y) 12, L (L za0 y) 13, L (L za0 y) 14, L (L za0 y) 15]) 13), .int .u8 (L (L za1 [L (L za0 y) 0, L (L za0 y) 1, L (L za0 y) 2, L (L za0 y) 3, L (L za0 y) 4, L (L za0 y) 5, L (L za0 y) 6, L (L za0 y) 7, L (L za0 y) 8, L (L za0 y) 9, L (L za0 y) 10, L (L za0 y) 11, L (L za0 y) 12, L (L za0 y) 13, L (L za0 y) 14, L (L za0 y) 15]) 14), .int .u8 (L (L za1 [L (L za0 y) 0, L (L za0 y) 1, L (L za0 y) 2, L (L za0 y) 3, L (L za0 y) 4, L (L za0 y) 5, L (L za0 y) 6, L (L za0 y) 7, L (L za0 y) 8, L (L za0 y) 9, L (L za0 y) 10, L (L za0 y) 11, L (L za0 y) 12, L (L za0 y) 13, L (L za0 y) 14, L (L za0 y) 15]) 15)]) = y := by subst hL; exact fun y => (zbh y).2
 have hQ1o : ∀ y : Pr, (L zcl (.agg [.int .u8 (L (L za1 [L (L za0 y) 0, L (L za0 y) 1, L (L za0 y) 2, L (L za0 y) 3, L (L za0 y) 4, L (L za0 y) 5, L (L za0 y) 6, L (L za0 y) 7, L (L za0 y) 8, L (L za0 y) 9, L (L za0 y) 10, L (L za0 y) 11, L (L za0 y) 12, L (L za0 y) 13, L (L za0 y) 14, L (L za0 y) 15]) 0), .int .u8 (L (L za1 [L (L za0 y) 0, L (L za0 y) 1, L (L za0 y) 2, L (L za0 y) 3, L (L za0 y) 4, L (L za0 y) 5, L (L za0 y) 6, L (L za0 y) 7, L (L za0 y) 8, L (L za0 y) 9, L (L za0 y) 10, L (L za0 y) 11, L (L za0 y) 12, L (L za0 y) 13, L (L za0 y) 14, L (L za0 y) 15]) 1), .int .u8 (L (L za1 [L (L za0 y) 0, L (L za0 y) 1, L (L za0 y) 2, L (L za0 y) 3, L (L za0 y) 4, L (L za0 y) 5, L (L za0 y) 6, L (L za0 y) 7, L (L za0 y) 8, L (L za0 y) 9, L (L za0 y) 10, L (L za0 y) 11, L (L za0 y) 12, L (L za0 y) 13, L (L za0 y) 14, L (L za0 y) 15]) 2), .int .u8 (L (L za1 [L (L za0 y) 0, L (L za0 y) 1, L (L za0 y) 2, L (L za0 y) 3, L (L za0 y) 4, L (L za0 y) 5, L (L za0 y) 6, L (L za0 y) 7, L (L za0 y) 8, L (L za0 y) 9, L (L za0 y) 10, L (L za0 y) 11, L (L za0 y) 12, L (L za0 y) 13, L (L za0 y) 14, L (L za0 y) 15]) 3), .int .u8 (L (L za1 [L (L za0 y) 0, L (L za0 y) 1, L (L za0 y) 2, L (L za0 y) 3, L (L za0 y) 4, L (L za0 y) 5, L (L za0 y) 6, L (L za0 y) 7, L (L za0 y) 8, L (L za0 y) 9, L (L za0 y) 10, L (L za0 y) 11, L (L za0 y) 12, L (L za0 y) 13, L (L za0 y) 14, L (L za0 y) 15]) 4), .int .u8 (L (L za1 [L (L za0 y) 0, L (L za0 y) 1, L (L za0 y) 2, L (L za0 y) 3, L (L za0 y) 4, L (L za0 y) 5, L (L za0 y) 6, L (L za0 y) 7, L (L za0 y) 8, L (L za0 y) 9, L (L za0 y) 10, L (L za0 y) 11, L (L za0 y) 12, L (L za0 y) 13, L (L za0 y) 14, L (L za0 y) 15]) 5), .int .u8 (L (L za1 [L (L za0 y) 0, L (L za0 y) 1, L (L za0 y) 2, L (L za0 y) 3, L (L za0 y) 4, L (L za0 y) 5, L (L za0 y) 6, L (L za0 y) 7, L (L za0 y) 8, L (L za0 y) 9, L (L za0 y) 10, L (L za0 y) 11, L (L za0 y) 12, L (L za0 y) 13, L (L za0 y) 14, L (L za0 y) 15]) 6), .int .u8 (L (L za1 [L (L za0 y) 0, L (L za0 y) 1, L (L za0 y) 2, L (L za0 y) 3, L (L za0 y) 4, L (L za0 y) 5, L (L za0 y) 6, L (L za0 y) 7, L (L za0 y) 8, L (L za0 y) 9, L (L za0 y) 10, L (L za0 y) 11, L (L za0 y) 12, L (L za0 y) 13, L (L za0 y) 14, L (L za0 y) 15]) 7), .int .u8 (L (L za1 [L (L za0 y) 0, L (L za0 y) 1, L (L za0 y) 2, L (L za0 y) 3, L (L za0 y) 4, L (L za0 y) 5, L (L za0 y) 6, L (L za0 y) 7, L (L za0 y) 8, L (L za0 y) 9, L (L za0 y) 10, L (L za0 y) 11, L (L za0 y) 12, L (L za0 y) 13, L (L za0 y) 14, L (L za0 y) 15]) 8), .int .u8 (L (L za1 [L (L za0 y) 0, L (L za0 y) 1, L (L za0 y) 2, L (L za0 y) 3, L (L za0 y) 4, L (L za0 y) 5, L (L za0 y) 6, L (L za0 y) 7, L (L za0 y) 8, L (L za0 y) 9, L (L za0 y) 10, L (L za0 y) 11, L (L za0 y) 12, L (L za0 y) 13, L (L za0 y) 14, L (L za0 y) 15]) 9), .int .u8 (L (L za1 [L (L za0 y) 0, L (L za0 y) 1, L (L za0 y) 2, L (L za0 y) 3, L (L za0 y) 4, L (L za0 y) 5, L (L za0 y) 6, L (L za0 y) 7, L (L za0 y) 8, L (L za0 y) 9, L (L za0 y) 10, L (L za0 y) 11, L (L za0 y) 12, L (L za0 y) 13, L (L za0 y) 14, L (L za0 y) 15]) 10), .int .u8 (L (L za1 [L (L za0 y) 0, L (L za0 y) 1, L (L za0 y) 2, L (L za0 y) 3, L (L za0 y) 4, L (L za0 y) 5, L (L za0 y) 6, L (L za0 y) 7, L (L za0 y) 8, L (L za0 y) 9, L (L za0 y) 10, L (L za0 y) 11, L (L za0 y) 12, L (L za0 y) 13, L (L za0 y) 14, L (L za0 y) 15]) 11), .int .u8 (L (L za1 [L (L za0 y) 0, L (L za0 y) 1, L (L za0 y) 2, L (L za0 y) 3, L (L za0 y) 4, L (L za0 y) 5, L (L za0 y) 6, L (L za0 y) 7, L (L za0 y) 8, L (L za0 y) 9, L (L za0 y) 10, L (L za0 y) 11, L (L za0 y) 12, L (L za0 y) 13, L (L za0 y) 14, L (L za0 y) 15]) 12), .int .u8 (L (L za1 [L (L za0 y) 0, L (L za0 y) 1, L (L za0 y) 2, L (L za0 y) 3, L (L za0 y) 4, L (L za0 y) 5, L (L za0 y) 6, L (L za0 y) 7, L (L za0 y) 8, L (L za0 y) 9, L (L za0 y) 10, L (L za0 y) 11, L (L za0 y) 12, L (L za0 y) 13, L (L za0 y) 14, L (L za0 y) 15]) 13), .int .u8 (L (L za1 [L (L za0 y) 0, L (L za0 y) 1, L (L za0 y) 2, L (L za0 y) 3, L (L za0 y) 4, L (L za0 y) 5, L (L za0 y) 6, L (L za0 y) 7, L (L za0 y) 8, L (L za0 y) 9, L (L za0 y) 10, L (L za0 y) 11, L (L za0 y) 12, L (L za0 y) 13, L (L za0 y) 14, L (L za0 y) 15]) 14), .int .u8 (L (L za1 [L (L za0 y) 0, L (L za0 y) 1, L (L za0 y) 2, L (L za0 y) 3, L (L za0 y) 4, L (L za0 y) 5, L (L za0 y) 6, L (L za0 y) 7, L (L za0 y) 8, L (L za0 y) 9, L (L za0 y) 10, L (L za0 y) 11, L (L za0 y) 12, L (L za0 y) 13, L (L za0 y) 14, L (L za0 y) 15]) 15)])) = True := by subst hL; exact fun y => eq_true (zbh y).1
 have hG : ∀ y : List Le, L zaf (.lst 18 (L zf5 y) (fun i => leC L (L (L zao y) i))) = y := by subst hL; exact fun y => zh6 y
 have hGo : ∀ y : List Le, (L ze7 (.lst 18 (L zf5 y) (fun i => leC L (L (L zao y) i)))) = True := by subst hL; exact fun y => eq_true (zlg y)
 have h2 : ∀ a b : Int, L zal (.agg [.int .u8 a, .int .u8 b, .int .u8 0, .int .u8 0, .int .u8 0, .int .u8 0, .int .u8 0, .int .u8 0, .int .u8 0, .int .u8 0, .int .u8 0, .int .u8 0, .int .u8 0, .int .u8 0, .int .u8 0, .int .u8 0]) = L (L pr2 a) b := by subst hL; exact fun a b => (rdg2 a b).2
 have h2o : ∀ a b : Int, (L zcl (.agg [.int .u8 a, .int .u8 b, .int .u8 0, .int .u8 0, .int .u8 0, .int .u8 0, .int .u8 0, .int .u8 0, .int .u8 0, .int .u8 0, .int .u8 0, .int .u8 0, .int .u8 0, .int .u8 0, .int .u8 0, .int .u8 0])) = True := by subst hL; exact fun a b => eq_true (rdg2 a b).1
 have hN : L zaf .nils = [] := by subst hL; rfl
 have hNo : (L ze7 .nils) = True := by subst hL; exact eq_true trivial
 (cbv; try simp only [syT, true_and, and_true])
 simp only [h2, h2o, hN, hNo, true_and, hG, hGo]
 clear hE hEo hF hFo hEta hMp hQ0 hQo hQ1 hQ1o hG hGo
 subst hL; subst hQ
 have o1 : zgm (pr2 1 0) := zss (by omega) (by omega)
 have e1 : ieq (zda [] (pr2 1 0) 1) 0 = true := by decide +kernel
 have e2 : (zb2 (zdf [] (pr2 1 0) 1) (pr2 1 0)).h = true := by decide +kernel
 have e3 : (zb2 [] (pr2 1 0)).h = false := rfl
 have o2 := yf4 1 zpd o1
 have o3 := yaq 1 zpd o1 (by decide)
 have o3 : zdz (zdf [] (pr2 1 0) 1) := by show (zdf [] (pr2 1 0) 1).length <= 1000000; omega
 have o0 : zdz [] := by show [].length <= 1000000; decide
 refine ⟨⟨o0, zpd, o1⟩, fun _ => ⟨fun _ => ⟨fun _ => ⟨⟨o3, o2, o1⟩, fun _ => ⟨⟨o0, zpd, o1⟩, ?_⟩, fun h => ?_⟩, fun h => ?_⟩, fun h => (by cases h)⟩, fun h => (by cases h)⟩
 · show zfk (.bool true) (.bool (!(zb2 [] (pr2 1 0)).h))
   rw [e3, zby]; rfl
 · have h : (zb2 (zdf [] (pr2 1 0) 1) (pr2 1 0)).h = false := h
   rw [e2] at h; cases h
 · have h : ieq (zda [] (pr2 1 0) 1) 0 = false := h
   rw [e1] at h; cases h
structure La where
 d : Int
 p : Int
 k : Int
def laC (L : za8) (x : La) : Nat -> AV
 | 0 => .int .u8 (L La.d x)
 | 1 => .int .u8 (L La.p x)
 | _ => .int .i64 (L La.k x)
def zbg (l : List La) (i : Nat) : La := l.getD i ⟨0, 0, 0⟩
def ymq (l : List La) : Nat := l.length
def yh3 (x : La) : Prop := (0 <= x.d /\ x.d < 256) /\ (0 <= x.p /\ x.p < 256) /\ (-9223372036854775808 <= x.k /\ x.k < 9223372036854775808)
def ymk (L : za8) (l : List La) : AV := .lst 3 (L ymq l) (fun i => laC L (L (L zbg l) i))
theorem opens_La {H : Type} {enc : TypeId × Value -> H} {W : World} : zlo enc Tryz.prog W 38 La 3 (laC std) yh3 :=
 (zp1 Tryz.underlying38 (by kernel_rfl) (zgt rfl (opens_int Tryz.underlying5 (by kernel_rfl)) (zgt rfl (opens_int Tryz.underlying5 (by kernel_rfl)) (zgt rfl (opens_int Tryz.underlying3 (by kernel_rfl)) (zvd _))))).map
   (fun y => La.mk y.1 y.2.1 y.2.2.1)
   (fun y j hj => by match j, hj with | 0, _ => rfl | 1, _ => rfl | 2, _ => rfl)
   (fun y h => by
     have a1 := bounds_u8 h.1
     have a2 := bounds_u8 h.2.1
     have a3 := bounds_i64 h.2.2.1
     exact ⟨⟨a1.1, by show y.1 < _; omega⟩, ⟨a2.1, by show y.2.1 < _; omega⟩, ⟨a3.1, by show y.2.2.1 < _; omega⟩⟩)
theorem avLa (l : List La) (i j : Nat) (h : i < l.length) : avL (laC std) l i j = laC std (zbg l i) j := by
 rw [avL, zbg, List.getD_eq_getElem?_getD, List.getElem?_eq_getElem h]; rfl
theorem zyu {l : List La} {i : Nat} (h : i < l.length) : zbg l i ∈ l := by
 rw [zbg, List.getD_eq_getElem?_getD, List.getElem?_eq_getElem h]
 exact List.getElem_mem h
def lhP : Pr := pr2 200 0
def lhX (a : La) : Pr := if a.p.tmod 3 = 0 then lhP else pr2 (a.p.tmod 8) 0
def lhL (k : Int) (l : List Le) (a : La) : List Le := if a.d.tmod 4 = 2 then zic l (lhX a) else if a.d.tmod 4 = 3 then zie l (lhX a) else zdf l (lhX a) k
def lhR (r : Int) (a : La) : Int := if lhX a = lhP then (if a.d.tmod 4 = 2 then 0 else if a.d.tmod 4 = 3 then 0 else r + 1) else r
def lhH (k r : Int) (h : Bool) (a : La) : Bool := if lhX a = lhP then (if a.d.tmod 4 = 2 then h else if a.d.tmod 4 = 3 then false else h || decide (k <= r + 1)) else h
def lhS : List Pr := [lhP, pr2 0 0, pr2 1 0, pr2 2 0, pr2 3 0, pr2 4 0, pr2 5 0, pr2 6 0, pr2 7 0]
structure Lh where
 i : Nat
 l : List Le
 r : Int
 h : Bool
structure LhI (acs : List La) (k : Int) (x : Lh) : Prop where
 i : x.i <= acs.length
 ok : zd6 x.l
 few : ∀ e ∈ x.l, e.p ∈ lhS
 r0 : 0 <= x.r
 r1 : x.r <= x.i
 g : zb2 x.l lhP = ⟨lhP, min x.r 255, x.h⟩
theorem tm8 {n : Int} (h : 0 <= n) : 0 <= n.tmod 8 /\ n.tmod 8 < 8 := by rw [Int.tmod_eq_emod_of_nonneg h]; omega
theorem zzj {a : La} (h : yh3 a) : lhX a ∈ lhS /\ zgm (lhX a) := by
 unfold lhX
 by_cases h3 : a.p.tmod 3 = 0
 · rw [if_pos h3]
   exact ⟨by unfold lhS; simp, zss (by omega) (by omega)⟩
 · rw [if_neg h3]
   obtain ⟨m0, m1⟩ := tm8 h.2.1.1
   generalize a.p.tmod 8 = m at m0 m1
   refine ⟨?_, zss (by omega) (by omega)⟩
   have : m = 0 \/ m = 1 \/ m = 2 \/ m = 3 \/ m = 4 \/ m = 5 \/ m = 6 \/ m = 7 := by omega
   unfold lhS
   rcases this with rfl | rfl | rfl | rfl | rfl | rfl | rfl | rfl <;> simp
theorem yal {l : List Le} : ∀ {S : List Pr}, (l.Pairwise fun a b => a.p ≠ b.p) -> (∀ e ∈ l, e.p ∈ S) -> l.length <= S.length := by
 induction l with
 | nil => intro S _ _; simp
 | cons e l ih =>
   intro S hn hs
   obtain ⟨h1, h2⟩ := List.pairwise_cons.1 hn
   have he := hs e (by simp)
   have := ih (S := S.erase e.p) h2 (fun x hx => (List.mem_erase_of_ne (h1 x hx).symm).2 (hs x (by simp [hx])))
   rw [List.length_erase_of_mem he] at this
   have : 0 < S.length := List.length_pos_of_mem he
   rw [List.length_cons]; omega
theorem zto {l : List Le} (h : zd6 l) : l.Pairwise fun a b => a.p ≠ b.p := h.ris.imp fun {a b} hlt e => by
 rw [kLe, kLe, e] at hlt; omega
theorem zrn {l : List Le} {e : Le} (hl : zd6 l) (he : zhy e) (h : ∀ x ∈ l, x.p ∈ lhS) (hp : e.p ∈ lhS) : ∀ x ∈ zbx l e, x.p ∈ lhS := by
 intro x hx
 rcases (zki hl he).1 hx with ⟨h1, _⟩ | ⟨_, rfl⟩
 · exact h x h1
 · exact hp
theorem yf2 {acs : List La} {k : Int} {x : Lh} (h : LhI acs k x) : x.l.length <= 9 := yal (S := lhS) (zto h.ok) h.few
theorem zo2 {l : List Le} {p : Pr} {k : Int} (hl : l.length <= 9) (hk : 1 <= k /\ k <= 255) : zda l p k = 0 /\ zdf l p k = zbx l (yf5 (zb2 l p) k) := by
 have hf : ¬ zih l p = true := by
   unfold zih
   rw [decide_eq_false (show ¬ 64 <= l.length by omega), Bool.and_false]; decide
 have h0 : zda l p k = 0 := by
   unfold zda
   rw [if_neg (by omega), if_neg (fun h => hf h.1)]
 refine ⟨h0, ?_⟩
 unfold zdf zdk
 rw [if_pos h0, if_neg hf]
theorem zzi {acs : List La} {k : Int} {x : Lh} (h : LhI acs k x) {a : La} (ha : yh3 a) (hk : 1 <= k /\ k <= 255) : zd6 (lhL k x.l a) /\ (∀ e ∈ lhL k x.l a, e.p ∈ lhS) /\ (lhL k x.l a).length <= 9 := by
 obtain ⟨hi, ho⟩ := zzj ha
 have key : zd6 (lhL k x.l a) /\ (∀ e ∈ lhL k x.l a, e.p ∈ lhS) := by
   unfold lhL
   split
   · exact ⟨zhg h.ok (zh5 h.ok ho), zrn h.ok (zh5 h.ok ho) h.few hi⟩
   · split
     · have hc : zhy ⟨lhX a, 0, false⟩ := ⟨ho, Int.le_refl _, by show (0 : Int) <= 255; decide⟩
       exact ⟨zhg h.ok hc, zrn h.ok hc h.few hi⟩
     · rw [(zo2 (yf2 h) hk).2]
       have hd := zin k (zfi h.ok ho)
       refine ⟨zhg h.ok hd, zrn h.ok hd h.few ?_⟩
       show (zb2 x.l (lhX a)).p ∈ lhS
       rw [znj]; exact hi
 exact ⟨key.1, key.2, yal (S := lhS) (zto key.1) key.2⟩
theorem yge {acs : List La} {k : Int} {x : Lh} (h : LhI acs k x) {a : La} (ha : yh3 a) (hk : 1 <= k /\ k <= 255) : zb2 (lhL k x.l a) lhP = ⟨lhP, min (lhR x.r a) 255, lhH k x.r x.h a⟩ := by
 obtain ⟨hi, ho⟩ := zzj ha
 have hr0 := h.r0
 by_cases he : lhX a = lhP
 · unfold lhL lhR lhH
   rw [if_pos he, if_pos he, he]
   rw [he] at ho
   by_cases h2 : a.d.tmod 4 = 2
   · rw [if_pos h2, if_pos h2, if_pos h2]
     unfold zic
     rw [zig h.ok (zh5 h.ok ho), if_pos rfl, h.g]
     cases x.h <;> rfl
   · rw [if_neg h2, if_neg h2, if_neg h2]
     by_cases h3 : a.d.tmod 4 = 3
     · rw [if_pos h3, if_pos h3, if_pos h3]
       unfold zie
       have hc : zhy ⟨lhP, 0, false⟩ := ⟨ho, Int.le_refl _, by show (0 : Int) <= 255; decide⟩
       rw [zig h.ok hc, if_pos rfl]
       rfl
     · rw [if_neg h3, if_neg h3, if_neg h3, (zo2 (yf2 h) hk).2, zig h.ok (zin k (zfi h.ok ho)), h.g]
       have e1 : (yf5 ⟨lhP, min x.r 255, x.h⟩ k) = ⟨lhP, min (x.r + 1) 255, x.h || decide (k <= x.r + 1)⟩ := by
         unfold yf5
         have e2 : min (min x.r 255 + 1) 255 = min (x.r + 1) 255 := by omega
         have e3 : decide (k <= min (x.r + 1) 255) = decide (k <= x.r + 1) := by
           by_cases h4 : k <= x.r + 1
           · rw [decide_eq_true h4, decide_eq_true (by omega)]
           · rw [decide_eq_false h4, decide_eq_false (by omega)]
         simp only [e2, e3]
       rw [e1, if_pos rfl, if_pos]
       unfold zdl
       simp only
       rw [decide_eq_true (by omega), Bool.true_or]
 · unfold lhL lhR lhH
   rw [if_neg he, if_neg he]
   have hne : ¬ lhP = lhX a := fun h => he h.symm
   split
   · unfold zic
     rw [zig h.ok (zh5 h.ok ho), if_neg hne, h.g]
   · split
     · unfold zie
       have hc : zhy ⟨lhX a, 0, false⟩ := ⟨ho, Int.le_refl _, by show (0 : Int) <= 255; decide⟩
       rw [zig h.ok hc, if_neg hne, h.g]
     · rw [(zo2 (yf2 h) hk).2, zig h.ok (zin k (zfi h.ok ho)), if_neg (by show ¬ lhP = (zb2 x.l (lhX a)).p; rw [znj]; exact hne), h.g]
theorem yip {acs : List La} {k : Int} {x : Lh} (h : LhI acs k x) {a : La} (ha : yh3 a) (hk : 1 <= k /\ k <= 255) (hi : x.i < acs.length) : LhI acs k ⟨x.i + 1, lhL k x.l a, lhR x.r a, lhH k x.r x.h a⟩ := by
 have h0 := h.r0
 have h1 := h.r1
 refine ⟨hi, (zzi h ha hk).1, (zzi h ha hk).2.1, ?_, ?_, yge h ha hk⟩
 · unfold lhR
   simp only
   repeat' split
   all_goals omega
 · unfold lhR
   simp only
   repeat' split
   all_goals omega
def lhMu (acs : List La) (x : Lh) : Nat := acs.length - x.i
def ypv (acs : List La) (i : Int) (y : Pr) : Prop := y = lhX (zbg acs i.toNat)
def ypu (acs : List La) (k i : Int) (v : AV) (y : List Le) : Prop := y = lhL k (zaf v) (zbg acs i.toNat)
def yid {α : Type} (_ : α) : Nat := 0
def ypt (acs : List La) (k i r : Int) (h : Bool) (y : Int × Bool) : Prop := y = (lhR r (zbg acs i.toNat), lhH k r h (zbg acs i.toNat))
def lhA (L : za8) (acs : List La) (k : Int) : Nat -> St -> Option Ann := fun id st => match id with
 | 0 => some ⟨Lh, fun x => [(25, .int .i64 (L zac (L Lh.i x))), (7, .int .i64 (L Lh.r x)), (8, .bool (L Lh.h x))], fun x => [(5, .box 25 [zci L (L Lh.l x)]), (6, .row 30 1 16 (fun i _ => .int .u8 (L2 L za0 (L2 L pr2 200 0) i)))], [1, 4, 5, 6, 23, 24], [], fun x => L3 L LhI acs k x, fun x => L2 L lhMu acs x⟩
 | 1000036 => zms st 25 fun i => some ⟨Pr, fun _ => [], fun y => [(11, .row 30 1 16 (fun i _ => .int .u8 (L2 L za0 y i)))], [1, 4, 5, 6, 7, 8, 10, 11, 23, 24, 25], [5, 6, 10], fun y => L3 L ypv acs i y, fun y => L yid y⟩
 | 1000049 => zms st 25 fun i => match za3 st.objs 5 with
   | some (.box _ [v]) => some ⟨List Le, fun _ => [], fun y => [(5, .box 25 [zci L y])], [1, 4, 5, 6, 7, 8, 10, 11, 23, 24, 25], [6, 10, 11], fun y => L (L3 L (L ypu acs) k i v) y, fun y => L yid y⟩
   | _ => none
 | 1000061 => zms st 25 fun i => zms st 7 fun r => match za3 st.slots 8 with
   | some (.bool h) => some ⟨Int × Bool, fun y => [(7, .int .i64 (L Prod.fst y)), (8, .bool (L Prod.snd y))], fun _ => [], [1, 4, 5, 6, 23, 24, 25], [5, 6], fun y => L (L (L3 L (L ypt acs) k i r) h) y, fun y => L yid y⟩
   | _ => none
 | _ => none
theorem yeo (acs : List La) (hl : ∀ y ∈ acs, yh3 y) (k : Int) (hk : 0 <= k /\ k < 256) : zab Tryz.prog 4 [ymk std acs, .int .u8 k] (.bool true) := by
 refine zas (T := tt) (S := fun L => zbe [tru 7, yim L, yis L, ye6 L, zvl L]) (lo := fun L => lhA L acs k) (lb := noA) 5 (fn := Tryz.f4) (xs := fun L => [ymk L acs, .int .u8 k]) rfl rfl (by kernel_rfl) (by kernel_rfl) rfl zae (za7 ⟨zc1 zw1, ydx, ye9, ztn, zjh, trivial⟩) (by kernel_rfl) ?_
 intro L P' Q' hL hP hQ
 have hE : ∀ (y : Pr) (d : Int) (h : Bool), L zbt (.agg [.int .u8 (L (L za0 y) 0), .int .u8 (L (L za0 y) 1), .int .u8 (L (L za0 y) 2), .int .u8 (L (L za0 y) 3), .int .u8 (L (L za0 y) 4), .int .u8 (L (L za0 y) 5), .int .u8 (L (L za0 y) 6), .int .u8 (L (L za0 y) 7), .int .u8 (L (L za0 y) 8), .int .u8 (L (L za0 y) 9), .int .u8 (L (L za0 y) 10), .int .u8 (L (L za0 y) 11), .int .u8 (L (L za0 y) 12), .int .u8 (L (L za0 y) 13), .int .u8 (L (L za0 y) 14), .int .u8 (L (L za0 y) 15), .int .i64 d, .bool h]) = L (L (L Le.mk y) d) h := by subst hL; exact fun y d h => (zbi ⟨y, d, h⟩).2
 have hEo : ∀ (y : Pr) (d : Int) (h : Bool), (L zdc (.agg [.int .u8 (L (L za0 y) 0), .int .u8 (L (L za0 y) 1), .int .u8 (L (L za0 y) 2), .int .u8 (L (L za0 y) 3), .int .u8 (L (L za0 y) 4), .int .u8 (L (L za0 y) 5), .int .u8 (L (L za0 y) 6), .int .u8 (L (L za0 y) 7), .int .u8 (L (L za0 y) 8), .int .u8 (L (L za0 y) 9), .int .u8 (L (L za0 y) 10), .int .u8 (L (L za0 y) 11), .int .u8 (L (L za0 y) 12), .int .u8 (L (L za0 y) 13), .int .u8 (L (L za0 y) 14), .int .u8 (L (L za0 y) 15), .int .i64 d, .bool h])) = True := by subst hL; exact fun y d h => eq_true (zbi ⟨y, d, h⟩).1
 have hF : ∀ (y : Pr) (d : Int) (h : Bool), L zbt (.agg [.int .u8 (L (L za1 [L (L za0 y) 0, L (L za0 y) 1, L (L za0 y) 2, L (L za0 y) 3, L (L za0 y) 4, L (L za0 y) 5, L (L za0 y) 6, L (L za0 y) 7, L (L za0 y) 8, L (L za0 y) 9, L (L za0 y) 10, L (L za0 y) 11, L (L za0 y) 12, L (L za0 y) 13, L (L za0 y) 14, L (L za0 y) 15]) 0), .int .u8 (L (L za1 [L (L za0 y) 0, L (L za0 y) 1, L (L za0 y) 2, L (L za0 y) 3, L (L za0 y) 4, L (L za0 y) 5, L (L za0 y) 6, L (L za0 y) 7, L (L za0 y) 8, L (L za0 y) 9, L (L za0 y) 10, L (L za0 y) 11, L (L za0 y) 12, L (L za0 y) 13, L (L za0 y) 14, L (L za0 y) 15]) 1), .int .u8 (L (L za1 [L (L za0 y) 0, L (L za0 y) 1, L (L za0 y) 2, L (L za0 y) 3, L (L za0 y) 4, L (L za0 y) 5, L (L za0 y) 6, L (L za0 y) 7, L (L za0 y) 8, L (L za0 y) 9, L (L za0 y) 10, L (L za0 y) 11, L (L za0 y) 12, L (L za0 y) 13, L (L za0 y) 14, L (L za0 y) 15]) 2), .int .u8 (L (L za1 [L (L za0 y) 0, L (L za0 y) 1, L (L za0 y) 2, L (L za0 y) 3, L (L za0 y) 4, L (L za0 y) 5, L (L za0 y) 6, L (L za0 y) 7, L (L za0 y) 8, L (L za0 y) 9, L (L za0 y) 10, L (L za0 y) 11, L (L za0 y) 12, L (L za0 y) 13, L (L za0 y) 14, L (L za0 y) 15]) 3), .int .u8 (L (L za1 [L (L za0 y) 0, L (L za0 y) 1, L (L za0 y) 2, L (L za0 y) 3, L (L za0 y) 4, L (L za0 y) 5, L (L za0 y) 6, L (L za0 y) 7, L (L za0 y) 8, L (L za0 y) 9, L (L za0 y) 10, L (L za0 y) 11, L (L za0 y) 12, L (L za0 y) 13, L (L za0 y) 14, L (L za0 y) 15]) 4), .int .u8 (L (L za1 [L (L za0 y) 0, L (L za0 y) 1, L (L za0 y) 2, L (L za0 y) 3, L (L za0 y) 4, L (L za0 y) 5, L (L za0 y) 6, L (L za0 y) 7, L (L za0 y) 8, L (L za0 y) 9, L (L za0 y) 10, L (L za0 y) 11, L (L za0 y) 12, L (L za0 y) 13, L (L za0 y) 14, L (L za0 y) 15]) 5), .int .u8 (L (L za1 [L (L za0 y) 0, L (L za0 y) 1, L (L za0 y) 2, L (L za0 y) 3, L (L za0 y) 4, L (L za0 y) 5, L (L za0 y) 6, L (L za0 y) 7, L (L za0 y) 8, L (L za0 y) 9, L (L za0 y) 10, L (L za0 y) 11, L (L za0 y) 12, L (L za0 y) 13, L (L za0 y) 14, L (L za0 y) 15]) 6), .int .u8 (L (L za1 [L (L za0 y) 0, L (L za0 y) 1, L (L za0 y) 2, L (L za0 y) 3, L (L za0 y) 4, L (L za0 y) 5, L (L za0 y) 6, L (L za0 y) 7, L (L za0 y) 8, L (L za0 y) 9, L (L za0 y) 10, L (L za0 y) 11, L (L za0 y) 12, L (L za0 y) 13, L (L za0 y) 14, L (L za0 y) 15]) 7), .int .u8 (L (L za1 [L (L za0 y) 0, L (L za0 y) 1, L (L za0 y) 2, L (L za0 y) 3, L (L za0 y) 4, L (L za0 y) 5, L (L za0 y) 6, L (L za0 y) 7, L (L za0 y) 8, L (L za0 y) 9, L (L za0 y) 10, L (L za0 y) 11, L (L za0 y) 12, L (L za0 y) 13, L (L za0 y) 14, L (L za0 y) 15]) 8), .int .u8 (L (L za1 [L (L za0 y) 0, L (L za0 y) 1, L (L za0 y) 2, L (L za0 y) 3, L (L za0 y) 4, L (L za0 y) 5, L (L za0 y) 6, L (L za0 y) 7, L (L za0 y) 8, L (L za0 y) 9, L (L za0 y) 10, L (L za0 y) 11, L (L za0 y) 12, L (L za0 y) 13, L (L za0 y) 14, L (L za0 y) 15]) 9), .int .u8 (L (L za1 [L (L za0 y) 0, L (L za0 y) 1, L (L za0 y) 2, L (L za0 y) 3, L (L za0 y) 4, L (L za0 y) 5, L (L za0 y) 6, L (L za0 y) 7, L (L za0 y) 8, L (L za0 y) 9, L (L za0 y) 10, L (L za0 y) 11, L (L za0 y) 12, L (L za0 y) 13, L (L za0 y) 14, L (L za0 y) 15]) 10), .int .u8 (L (L za1 [L (L za0 y) 0, L (L za0 y) 1, L (L za0 y) 2, L (L za0 y) 3, L (L za0 y) 4, L (L za0 y) 5, L (L za0 y) 6, L (L za0 y) 7, L (L za0 y) 8, L (L za0 y) 9, L (L za0 y) 10, L (L za0 y) 11, L (L za0 y) 12, L (L za0 y) 13, L (L za0 y) 14, L (L za0 y) 15]) 11), .int .u8 (L (L za1 [L (L za0 y) 0, L (L za0 y) 1, L (L za0 y) 2, L (L za0 y) 3, L (L za0 y) 4, L (L za0 y) 5, L (L za0 y) 6, L (L za0 y) 7, L (L za0 y) 8, L (L za0 y) 9, L (L za0 y) 10, L (L za0 y) 11, L (L za0 y) 12, L (L za0 y) 13, L (L za0 y) 14, L (L za0 y) 15]) 12), .int .u8 (L (L za1 [L (L za0 y) 0, L (L za0 y) 1, L (L za0 y) 2, L (L za0 y) 3, L (L za0 y) 4, L (L za0 y) 5, L (L za0 y) 6, L (L za0 y) 7, L (L za0 y) 8, L (L za0 y) 9, L (L za0 y) 10, L (L za0 y) 11, L (L za0 y) 12, L (L za0 y) 13, L (L za0 y) 14, L (L za0 y) 15]) 13), .int .u8 (L (L za1 [L (L za0 y) 0, L (L za0 y) 1, L (L za0 y) 2, L (L za0 y) 3, L (L za0 y) 4, L (L za0 y) 5, L (L za0 y) 6, L (L za0 y) 7, L (L za0 y) 8, L (L za0 y) 9, L (L za0 y) 10, L (L za0 y) 11, L (L za0 y) 12, L (L za0 y) 13, L (L za0 y) 14, L (L za0 y) 15]) 14), .int .u8 (L (L za1 [L (L za0 y) 0, L (L za0 y) 1, L (L za0 y) 2, L (L za0 y) 3, L (L za0 y) 4, L (L za0 y) 5, L (L za0 y) 6, L (L za0 y) 7, L (L za0 y) 8, L (L za0 y) 9, L (L za0 y) 10, L (L za0 y) 11, L (L za0 y) 12, L (L za0 y) 13, L (L za0 y) 14, L (L za0 y) 15]) 15), .int .i64 d, .bool h]) = L (L (L Le.mk y) d) h := by subst hL; exact fun y d h => (zbi ⟨y, d, h⟩).2
 have hFo : ∀ (y : Pr) (d : Int) (h : Bool), (L zdc (.agg [.int .u8 (L (L za1 [L (L za0 y) 0, L (L za0 y) 1, L (L za0 y) 2, L (L za0 y) 3, L (L za0 y) 4, L (L za0 y) 5, L (L za0 y) 6, L (L za0 y) 7, L (L za0 y) 8, L (L za0 y) 9, L (L za0 y) 10, L (L za0 y) 11, L (L za0 y) 12, L (L za0 y) 13, L (L za0 y) 14, L (L za0 y) 15]) 0), .int .u8 (L (L za1 [L (L za0 y) 0, L (L za0 y) 1, L (L za0 y) 2, L (L za0 y) 3, L (L za0 y) 4, L (L za0 y) 5, L (L za0 y) 6, L (L za0 y) 7, L (L za0 y) 8, L (L za0 y) 9, L (L za0 y) 10, L (L za0 y) 11, L (L za0 y) 12, L (L za0 y) 13, L (L za0 y) 14, L (L za0 y) 15]) 1), .int .u8 (L (L za1 [L (L za0 y) 0, L (L za0 y) 1, L (L za0 y) 2, L (L za0 y) 3, L (L za0 y) 4, L (L za0 y) 5, L (L za0 y) 6, L (L za0 y) 7, L (L za0 y) 8, L (L za0 y) 9, L (L za0 y) 10, L (L za0 y) 11, L (L za0 y) 12, L (L za0 y) 13, L (L za0 y) 14, L (L za0 y) 15]) 2), .int .u8 (L (L za1 [L (L za0 y) 0, L (L za0 y) 1, L (L za0 y) 2, L (L za0 y) 3, L (L za0 y) 4, L (L za0 y) 5, L (L za0 y) 6, L (L za0 y) 7, L (L za0 y) 8, L (L za0 y) 9, L (L za0 y) 10, L (L za0 y) 11, L (L za0 y) 12, L (L za0 y) 13, L (L za0 y) 14, L (L za0 y) 15]) 3), .int .u8 (L (L za1 [L (L za0 y) 0, L (L za0 y) 1, L (L za0 y) 2, L (L za0 y) 3, L (L za0 y) 4, L (L za0 y) 5, L (L za0 y) 6, L (L za0 y) 7, L (L za0 y) 8, L (L za0 y) 9, L (L za0 y) 10, L (L za0 y) 11, L (L za0 y) 12, L (L za0 y) 13, L (L za0 y) 14, L (L za0 y) 15]) 4), .int .u8 (L (L za1 [L (L za0 y) 0, L (L za0 y) 1, L (L za0 y) 2, L (L za0 y) 3, L (L za0 y) 4, L (L za0 y) 5, L (L za0 y) 6, L (L za0 y) 7, L (L za0 y) 8, L (L za0 y) 9, L (L za0 y) 10, L (L za0 y) 11, L (L za0 y) 12, L (L za0 y) 13, L (L za0 y) 14, L (L za0 y) 15]) 5), .int .u8 (L (L za1 [L (L za0 y) 0, L (L za0 y) 1, L (L za0 y) 2, L (L za0 y) 3, L (L za0 y) 4, L (L za0 y) 5, L (L za0 y) 6, L (L za0 y) 7, L (L za0 y) 8, L (L za0 y) 9, L (L za0 y) 10, L (L za0 y) 11, L (L za0 y) 12, L (L za0 y) 13, L (L za0 y) 14, L (L za0 y) 15]) 6), .int .u8 (L (L za1 [L (L za0 y) 0, L (L za0 y) 1, L (L za0 y) 2, L (L za0 y) 3, L (L za0 y) 4, L (L za0 y) 5, L (L za0 y) 6, L (L za0 y) 7, L (L za0 y) 8, L (L za0 y) 9, L (L za0 y) 10, L (L za0 y) 11, L (L za0 y) 12, L (L za0 y) 13, L (L za0 y) 14, L (L za0 y) 15]) 7), .int .u8 (L (L za1 [L (L za0 y) 0, L (L za0 y) 1, L (L za0 y) 2, L (L za0 y) 3, L (L za0 y) 4, L (L za0 y) 5, L (L za0 y) 6, L (L za0 y) 7, L (L za0 y) 8, L (L za0 y) 9, L (L za0 y) 10, L (L za0 y) 11, L (L za0 y) 12, L (L za0 y) 13, L (L za0 y) 14, L (L za0 y) 15]) 8), .int .u8 (L (L za1 [L (L za0 y) 0, L (L za0 y) 1, L (L za0 y) 2, L (L za0 y) 3, L (L za0 y) 4, L (L za0 y) 5, L (L za0 y) 6, L (L za0 y) 7, L (L za0 y) 8, L (L za0 y) 9, L (L za0 y) 10, L (L za0 y) 11, L (L za0 y) 12, L (L za0 y) 13, L (L za0 y) 14, L (L za0 y) 15]) 9), .int .u8 (L (L za1 [L (L za0 y) 0, L (L za0 y) 1, L (L za0 y) 2, L (L za0 y) 3, L (L za0 y) 4, L (L za0 y) 5, L (L za0 y) 6, L (L za0 y) 7, L (L za0 y) 8, L (L za0 y) 9, L (L za0 y) 10, L (L za0 y) 11, L (L za0 y) 12, L (L za0 y) 13, L (L za0 y) 14, L (L za0 y) 15]) 10), .int .u8 (L (L za1 [L (L za0 y) 0, L (L za0 y) 1, L (L za0 y) 2, L (L za0 y) 3, L (L za0 y) 4, L (L za0 y) 5, L (L za0 y) 6, L (L za0 y) 7, L (L za0 y) 8, L (L za0 y) 9, L (L za0 y) 10, L (L za0 y) 11, L (L za0 y) 12, L (L za0 y) 13, L (L za0 y) 14, L (L za0 y) 15]) 11), .int .u8 (L (L za1 [L (L za0 y) 0, L (L za0 y) 1, L (L za0 y) 2, L (L za0 y) 3, L (L za0 y) 4, L (L za0 y) 5, L (L za0 y) 6, L (L za0 y) 7, L (L za0 y) 8, L (L za0 y) 9, L (L za0 y) 10, L (L za0 y) 11, L (L za0 y) 12, L (L za0 y) 13, L (L za0 y) 14, L (L za0 y) 15]) 12), .int .u8 (L (L za1 [L (L za0 y) 0, L (L za0 y) 1, L (L za0 y) 2, L (L za0 y) 3, L (L za0 y) 4, L (L za0 y) 5, L (L za0 y) 6, L (L za0 y) 7, L (L za0 y) 8, L (L za0 y) 9, L (L za0 y) 10, L (L za0 y) 11, L (L za0 y) 12, L (L za0 y) 13, L (L za0 y) 14, L (L za0 y) 15]) 13), .int .u8 (L (L za1 [L (L za0 y) 0, L (L za0 y) 1, L (L za0 y) 2, L (L za0 y) 3, L (L za0 y) 4, L (L za0 y) 5, L (L za0 y) 6, L (L za0 y) 7, L (L za0 y) 8, L (L za0 y) 9, L (L za0 y) 10, L (L za0 y) 11, L (L za0 y) 12, L (L za0 y) 13, L (L za0 y) 14, L (L za0 y) 15]) 14), .int .u8 (L (L za1 [L (L za0 y) 0, L (L za0 y) 1, L (L za0 y) 2, L (L za0 y) 3, L (L za0 y) 4, L (L za0 y) 5, L (L za0 y) 6, L (L za0 y) 7, L (L za0 y) 8, L (L za0 y) 9, L (L za0 y) 10, L (L za0 y) 11, L (L za0 y) 12, L (L za0 y) 13, L (L za0 y) 14, L (L za0 y) 15]) 15), .int .i64 d, .bool h])) = True := by subst hL; exact fun y d h => eq_true (zbi ⟨y, d, h⟩).1
 have hEta : ∀ y : Le, L (L (L Le.mk (L Le.p y)) (L Le.d y)) (L Le.h y) = y := by subst hL; exact fun y => rfl
 have hMp : ∀ (y : Pr) (d : Int) (h : Bool), L Le.p (L (L (L Le.mk y) d) h) = y := by subst hL; exact fun y d h => rfl
 have hQ0 : ∀ y : Pr, L zal (.agg [.int .u8 (L (L za0 y) 0), .int .u8 (L (L za0 y) 1), .int .u8 (L (L za0 y) 2), .int .u8 (L (L za0 y) 3), .int .u8 (L (L za0 y) 4), .int .u8 (L (L za0 y) 5), .int .u8 (L (L za0 y) 6), .int .u8 (L (L za0 y) 7), .int .u8 (L (L za0 y) 8), .int .u8 (L (L za0 y) 9), .int .u8 (L (L za0 y) 10), .int .u8 (L (L za0 y) 11), .int .u8 (L (L za0 y) 12), .int .u8 (L (L za0 y) 13), .int .u8 (L (L za0 y) 14), .int .u8 (L (L za0 y) 15)]) = y := by subst hL; exact fun y => (zbh y).2
 have hQo : ∀ y : Pr, (L zcl (.agg [.int .u8 (L (L za0 y) 0), .int .u8 (L (L za0 y) 1), .int .u8 (L (L za0 y) 2), .int .u8 (L (L za0 y) 3), .int .u8 (L (L za0 y) 4), .int .u8 (L (L za0 y) 5), .int .u8 (L (L za0 y) 6), .int .u8 (L (L za0 y) 7), .int .u8 (L (L za0 y) 8), .int .u8 (L (L za0 y) 9), .int .u8 (L (L za0 y) 10), .int .u8 (L (L za0 y) 11), .int .u8 (L (L za0 y) 12), .int .u8 (L (L za0 y) 13), .int .u8 (L (L za0 y) 14), .int .u8 (L (L za0 y) 15)])) = True := by subst hL; exact fun y => eq_true (zbh y).1
 have hQ1 : ∀ y : Pr, L zal (.agg [.int .u8 (L (L za1 [L (L za0 y) 0, L (L za0 y) 1, L (L za0 y) 2, L (L za0 y) 3, L (L za0 y) 4, L (L za0 y) 5, L (L za0 y) 6, L (L za0 y) 7, L (L za0 y) 8, L (L za0 y) 9, L (L za0 y) 10, L (L za0 y) 11, L (L za0 y) 12, L (L za0 y) 13, L (L za0 y) 14, L (L za0 y) 15]) 0), .int .u8 (L (L za1 [L (L za0 y) 0, L (L za0 y) 1, L (L za0 y) 2, L (L za0 y) 3, L (L za0 y) 4, L (L za0 y) 5, L (L za0 y) 6, L (L za0 y) 7, L (L za0 y) 8, L (L za0 y) 9, L (L za0 y) 10, L (L za0 y) 11, L (L za0 y) 12, L (L za0 y) 13, L (L za0 y) 14, L (L za0 y) 15]) 1), .int .u8 (L (L za1 [L (L za0 y) 0, L (L za0 y) 1, L (L za0 y) 2, L (L za0 y) 3, L (L za0 y) 4, L (L za0 y) 5, L (L za0 y) 6, L (L za0 y) 7, L (L za0 y) 8, L (L za0 y) 9, L (L za0 y) 10, L (L za0 y) 11, L (L za0 y) 12, L (L za0 y) 13, L (L za0 y) 14, L (L za0 y) 15]) 2), .int .u8 (L (L za1 [L (L za0 y) 0, L (L za0 y) 1, L (L za0 y) 2, L (L za0 y) 3, L (L za0 y) 4, L (L za0 y) 5, L (L za0 y) 6, L (L za0 y) 7, L (L za0 y) 8, L (L za0 y) 9, L (L za0 y) 10, L (L za0 y) 11, L (L za0 y) 12, L (L za0 y) 13, L (L za0 y) 14, L (L za0 y) 15]) 3), .int .u8 (L (L za1 [L (L za0 y) 0, L (L za0 y) 1, L (L za0 y) 2, L (L za0 y) 3, L (L za0 y) 4, L (L za0 y) 5, L (L za0 y) 6, L (L za0 y) 7, L (L za0 y) 8, L (L za0 y) 9, L (L za0 y) 10, L (L za0 y) 11, L (L za0 y) 12, L (L za0 y) 13, L (L za0 y) 14, L (L za0 y) 15]) 4), .int .u8 (L (L za1 [L (L za0 y) 0, L (L za0 y) 1, L (L za0 y) 2, L (L za0 y) 3, L (L za0 y) 4, L (L za0 y) 5, L (L za0 y) 6, L (L za0 y) 7, L (L za0 y) 8, L (L za0 y) 9, L (L za0 y) 10, L (L za0 y) 11, L (L za0 y) 12, L (L za0 y) 13, L (L za0 y) 14, L (L za0 y) 15]) 5), .int .u8 (L (L za1 [L (L za0 y) 0, L (L za0 y) 1, L (L za0 y) 2, L (L za0 y) 3, L (L za0 y) 4, L (L za0 y) 5, L (L za0 y) 6, L (L za0 y) 7, L (L za0 y) 8, L (L za0 y) 9, L (L za0 y) 10, L (L za0 y) 11, L (L za0 y) 12, L (L za0 y) 13, L (L za0 y) 14, L (L za0 y) 15]) 6), .int .u8 (L (L za1 [L (L za0 y) 0, L (L za0 y) 1, L (L za0 y) 2, L (L za0 y) 3, L (L za0 y) 4, L (L za0 y) 5, L (L za0 y) 6, L (L za0 y) 7, L (L za0 y) 8, L (L za0 y) 9, L (L za0 y) 10, L (L za0 y) 11, L (L za0 y) 12, L (L za0 y) 13, L (L za0 y) 14, L (L za0 y) 15]) 7), .int .u8 (L (L za1 [L (L za0 y) 0, L (L za0 y) 1, L (L za0 y) 2, L (L za0 y) 3, L (L za0 y) 4, L (L za0 y) 5, L (L za0 y) 6, L (L za0 y) 7, L (L za0 y) 8, L (L za0 y) 9, L (L za0 y) 10, L (L za0 y) 11, L (L za0 y) 12, L (L za0 y) 13, L (L za0 y) 14, L (L za0 y) 15]) 8), .int .u8 (L (L za1 [L (L za0 y) 0, L (L za0 y) 1, L (L za0 y) 2, L (L za0 y) 3, L (L za0 y) 4, L (L za0 y) 5, L (L za0 y) 6, L (L za0 y) 7, L (L za0 y) 8, L (L za0 y) 9, L (L za0 y) 10, L (L za0 y) 11, L (L za0 y) 12, L (L za0 y) 13, L (L za0 y) 14, L (L za0 y) 15]) 9), .int .u8 (L (L za1 [L (L za0 y) 0, L (L za0 y) 1, L (L za0 y) 2, L (L za0 y) 3, L (L za0 y) 4, L (L za0 y) 5, L (L za0 y) 6, L (L za0 y) 7, L (L za0 y) 8, L (L za0 y) 9, L (L za0 y) 10, L (L za0 y) 11, L (L za0 y) 12, L (L za0 y) 13, L (L za0 y) 14, L (L za0 y) 15]) 10), .int .u8 (L (L za1 [L (L za0 y) 0, L (L za0 y) 1, L (L za0 y) 2, L (L za0 y) 3, L (L za0 y) 4, L (L za0 y) 5, L (L za0 y) 6, L (L za0 y) 7, L (L za0 y) 8, L (L za0 y) 9, L (L za0 y) 10, L (L za0 y) 11, L (L za0 y) 12, L (L za0 y) 13, L (L za0 y) 14, L (L za0 y) 15]) 11), .int .u8 (L (L za1 [L (L za0 y) 0, L (L za0 y) 1, L (L za0 y) 2, L (L za0 y) 3, L (L za0 y) 4, L (L za0 y) 5, L (L za0 y) 6, L (L za0 y) 7, L (L za0 y) 8, L (L za0 y) 9, L (L za0 y) 10, L (L za0 y) 11, L (L za0 y) 12, L (L za0 y) 13, L (L za0 y) 14, L (L za0 y) 15]) 12), .int .u8 (L (L za1 [L (L za0 y) 0, L (L za0 y) 1, L (L za0 y) 2, L (L za0 y) 3, L (L za0 y) 4, L (L za0 y) 5, L (L za0 y) 6, L (L za0 y) 7, L (L za0 y) 8, L (L za0 y) 9, L (L za0 y) 10, L (L za0 y) 11, L (L za0 y) 12, L (L za0 y) 13, L (L za0 y) 14, L (L za0 y) 15]) 13), .int .u8 (L (L za1 [L (L za0 y) 0, L (L za0 y) 1, L (L za0 y) 2, L (L za0 y) 3, L (L za0 y) 4, L (L za0 y) 5, L (L za0 y) 6, L (L za0 y) 7, L (L za0 y) 8, L (L za0 y) 9, L (L za0 y) 10, L (L za0 y) 11, L (L za0 y) 12, L (L za0 y) 13, L (L za0 y) 14, L (L za0 y) 15]) 14), .int .u8 (L (L za1 [L (L za0 y) 0, L (L za0 y) 1, L (L za0 y) 2, L (L za0 y) 3, L (L za0 y) 4, L (L za0 y) 5, L (L za0 y) 6, L (L za0 y) 7, L (L za0 y) 8, L (L za0 y) 9, L (L za0 y) 10, L (L za0 y) 11, L (L za0 y) 12, L (L za0 y) 13, L (L za0 y) 14, L (L za0 y) 15]) 15)]) = y := by subst hL; exact fun y => (zbh y).2
 have hQ1o : ∀ y : Pr, (L zcl (.agg [.int .u8 (L (L za1 [L (L za0 y) 0, L (L za0 y) 1, L (L za0 y) 2, L (L za0 y) 3, L (L za0 y) 4, L (L za0 y) 5, L (L za0 y) 6, L (L za0 y) 7, L (L za0 y) 8, L (L za0 y) 9, L (L za0 y) 10, L (L za0 y) 11, L (L za0 y) 12, L (L za0 y) 13, L (L za0 y) 14, L (L za0 y) 15]) 0), .int .u8 (L (L za1 [L (L za0 y) 0, L (L za0 y) 1, L (L za0 y) 2, L (L za0 y) 3, L (L za0 y) 4, L (L za0 y) 5, L (L za0 y) 6, L (L za0 y) 7, L (L za0 y) 8, L (L za0 y) 9, L (L za0 y) 10, L (L za0 y) 11, L (L za0 y) 12, L (L za0 y) 13, L (L za0 y) 14, L (L za0 y) 15]) 1), .int .u8 (L (L za1 [L (L za0 y) 0, L (L za0 y) 1, L (L za0 y) 2, L (L za0 y) 3, L (L za0 y) 4, L (L za0 y) 5, L (L za0 y) 6, L (L za0 y) 7, L (L za0 y) 8, L (L za0 y) 9, L (L za0 y) 10, L (L za0 y) 11, L (L za0 y) 12, L (L za0 y) 13, L (L za0 y) 14, L (L za0 y) 15]) 2), .int .u8 (L (L za1 [L (L za0 y) 0, L (L za0 y) 1, L (L za0 y) 2, L (L za0 y) 3, L (L za0 y) 4, L (L za0 y) 5, L (L za0 y) 6, L (L za0 y) 7, L (L za0 y) 8, L (L za0 y) 9, L (L za0 y) 10, L (L za0 y) 11, L (L za0 y) 12, L (L za0 y) 13, L (L za0 y) 14, L (L za0 y) 15]) 3), .int .u8 (L (L za1 [L (L za0 y) 0, L (L za0 y) 1, L (L za0 y) 2, L (L za0 y) 3, L (L za0 y) 4, L (L za0 y) 5, L (L za0 y) 6, L (L za0 y) 7, L (L za0 y) 8, L (L za0 y) 9, L (L za0 y) 10, L (L za0 y) 11, L (L za0 y) 12, L (L za0 y) 13, L (L za0 y) 14, L (L za0 y) 15]) 4), .int .u8 (L (L za1 [L (L za0 y) 0, L (L za0 y) 1, L (L za0 y) 2, L (L za0 y) 3, L (L za0 y) 4, L (L za0 y) 5, L (L za0 y) 6, L (L za0 y) 7, L (L za0 y) 8, L (L za0 y) 9, L (L za0 y) 10, L (L za0 y) 11, L (L za0 y) 12, L (L za0 y) 13, L (L za0 y) 14, L (L za0 y) 15]) 5), .int .u8 (L (L za1 [L (L za0 y) 0, L (L za0 y) 1, L (L za0 y) 2, L (L za0 y) 3, L (L za0 y) 4, L (L za0 y) 5, L (L za0 y) 6, L (L za0 y) 7, L (L za0 y) 8, L (L za0 y) 9, L (L za0 y) 10, L (L za0 y) 11, L (L za0 y) 12, L (L za0 y) 13, L (L za0 y) 14, L (L za0 y) 15]) 6), .int .u8 (L (L za1 [L (L za0 y) 0, L (L za0 y) 1, L (L za0 y) 2, L (L za0 y) 3, L (L za0 y) 4, L (L za0 y) 5, L (L za0 y) 6, L (L za0 y) 7, L (L za0 y) 8, L (L za0 y) 9, L (L za0 y) 10, L (L za0 y) 11, L (L za0 y) 12, L (L za0 y) 13, L (L za0 y) 14, L (L za0 y) 15]) 7), .int .u8 (L (L za1 [L (L za0 y) 0, L (L za0 y) 1, L (L za0 y) 2, L (L za0 y) 3, L (L za0 y) 4, L (L za0 y) 5, L (L za0 y) 6, L (L za0 y) 7, L (L za0 y) 8, L (L za0 y) 9, L (L za0 y) 10, L (L za0 y) 11, L (L za0 y) 12, L (L za0 y) 13, L (L za0 y) 14, L (L za0 y) 15]) 8), .int .u8 (L (L za1 [L (L za0 y) 0, L (L za0 y) 1, L (L za0 y) 2, L (L za0 y) 3, L (L za0 y) 4, L (L za0 y) 5, L (L za0 y) 6, L (L za0 y) 7, L (L za0 y) 8, L (L za0 y) 9, L (L za0 y) 10, L (L za0 y) 11, L (L za0 y) 12, L (L za0 y) 13, L (L za0 y) 14, L (L za0 y) 15]) 9), .int .u8 (L (L za1 [L (L za0 y) 0, L (L za0 y) 1, L (L za0 y) 2, L (L za0 y) 3, L (L za0 y) 4, L (L za0 y) 5, L (L za0 y) 6, L (L za0 y) 7, L (L za0 y) 8, L (L za0 y) 9, L (L za0 y) 10, L (L za0 y) 11, L (L za0 y) 12, L (L za0 y) 13, L (L za0 y) 14, L (L za0 y) 15]) 10), .int .u8 (L (L za1 [L (L za0 y) 0, L (L za0 y) 1, L (L za0 y) 2, L (L za0 y) 3, L (L za0 y) 4, L (L za0 y) 5, L (L za0 y) 6, L (L za0 y) 7, L (L za0 y) 8, L (L za0 y) 9, L (L za0 y) 10, L (L za0 y) 11, L (L za0 y) 12, L (L za0 y) 13, L (L za0 y) 14, L (L za0 y) 15]) 11), .int .u8 (L (L za1 [L (L za0 y) 0, L (L za0 y) 1, L (L za0 y) 2, L (L za0 y) 3, L (L za0 y) 4, L (L za0 y) 5, L (L za0 y) 6, L (L za0 y) 7, L (L za0 y) 8, L (L za0 y) 9, L (L za0 y) 10, L (L za0 y) 11, L (L za0 y) 12, L (L za0 y) 13, L (L za0 y) 14, L (L za0 y) 15]) 12), .int .u8 (L (L za1 [L (L za0 y) 0, L (L za0 y) 1, L (L za0 y) 2, L (L za0 y) 3, L (L za0 y) 4, L (L za0 y) 5, L (L za0 y) 6, L (L za0 y) 7, L (L za0 y) 8, L (L za0 y) 9, L (L za0 y) 10, L (L za0 y) 11, L (L za0 y) 12, L (L za0 y) 13, L (L za0 y) 14, L (L za0 y) 15]) 13), .int .u8 (L (L za1 [L (L za0 y) 0, L (L za0 y) 1, L (L za0 y) 2, L (L za0 y) 3, L (L za0 y) 4, L (L za0 y) 5, L (L za0 y) 6, L (L za0 y) 7, L (L za0 y) 8, L (L za0 y) 9, L (L za0 y) 10, L (L za0 y) 11, L (L za0 y) 12, L (L za0 y) 13, L (L za0 y) 14, L (L za0 y) 15]) 14), .int .u8 (L (L za1 [L (L za0 y) 0, L (L za0 y) 1, L (L za0 y) 2, L (L za0 y) 3, L (L za0 y) 4, L (L za0 y) 5, L (L za0 y) 6, L (L za0 y) 7, L (L za0 y) 8, L (L za0 y) 9, L (L za0 y) 10, L (L za0 y) 11, L (L za0 y) 12, L (L za0 y) 13, L (L za0 y) 14, L (L za0 y) 15]) 15)])) = True := by subst hL; exact fun y => eq_true (zbh y).1
 have hG : ∀ y : List Le, L zaf (.lst 18 (L zf5 y) (fun i => leC L (L (L zao y) i))) = y := by subst hL; exact fun y => zh6 y
 have hGo : ∀ y : List Le, (L ze7 (.lst 18 (L zf5 y) (fun i => leC L (L (L zao y) i)))) = True := by subst hL; exact fun y => eq_true (zlg y)
 (cbv; try simp only [syT, true_and, and_true])
 refine ⟨fun h => ?_, fun _ => ⟨fun h1 => ?_, fun h1 => ⟨fun h2 => ?_, fun h2 => ⟨⟨⟨0, [], 0, false⟩, ?_⟩, fun x hx => ?_⟩⟩⟩⟩
 · subst hL; cases h
 · subst hL; subst hQ; rw [zby]
 · subst hL; subst hQ; rw [zby]
 · (cbv; try simp only [syT, true_and, and_true])
   subst hL
   exact ⟨fun i j hi hj => rfl, rfl, fun _ _ _ _ => trivial, rfl, rfl, rfl, ⟨Nat.zero_le _, zpd, fun e h => (by cases h), Int.le_refl _, Int.le_refl _, rfl⟩⟩
 · have hx2 : LhI acs k x := by
     have h := hx
     rw [hL] at h
     exact h
   clear hx
   have hk1 : 1 <= k /\ k <= 255 := by
     rw [hL] at h2
     have h2 : ieq k 0 = false := h2
     rw [zpo] at h2
     omega
   have h9 := yf2 hx2
   have hi9 := hx2.i
   have hl1 : acs.length <= 100 := by
     rw [hL] at h1
     have h1 : ilt 100 (zac acs.length) = false := h1
     rw [zku, zb1] at h1
     omega
   (cbv; try simp only [syT, true_and, and_true])
   obtain ⟨y0, hy0⟩ : ∃ y : Pr, y = lhX (zbg acs x.i) := ⟨_, rfl⟩
   obtain ⟨x1, hx1⟩ : ∃ x1 : Lh, x1 = ⟨x.i + 1, lhL k x.l (zbg acs x.i), lhR x.r (zbg acs x.i), lhH k x.r x.h (zbg acs x.i)⟩ := ⟨_, rfl⟩
   have hin : L (L ilt (L zac (L Lh.i x))) (L zac (L ymq acs)) = true -> x.i < acs.length := by
     intro h
     rw [hL] at h
     have h : ilt (zac x.i) (zac acs.length) = true := h
     rw [zev, zb1, zb1] at h
     omega
   refine ⟨fun hlt => ⟨?_, ?_, ?_, ⟨fun h3 => ⟨y0, ?_⟩, fun h3 => ⟨y0, ?_⟩⟩, fun y hy => ?_⟩, fun hge => ?_⟩
   · have := hin hlt
     subst hL
     show inR (zac x.i) (zac acs.length) = true
     rw [zns, zb1, zb1]; omega
   · subst hL; rfl
   · subst hL; rfl
   · (cbv; try simp only [syT, true_and, and_true])
     subst hL
     have h3 : ieq ((zbg acs x.i).p.tmod 3) 0 = true := h3
     rw [zpn] at h3
     have e : y0 = lhP := by rw [hy0, lhX, if_pos h3]
     refine ⟨fun _ _ _ _ => trivial, fun _ _ _ _ => trivial, fun i j hi hj => ?_, fun _ _ _ _ => trivial, hy0⟩
     subst e
     exact congrArg (AV.int .u8) (congrArg (fun l => za1 l i) (zqy (pr2 200 0)))
   · (cbv; try simp only [syT, true_and, and_true])
     subst hL
     have h3 : ieq ((zbg acs x.i).p.tmod 3) 0 = false := h3
     rw [zpo] at h3
     have e : y0 = pr2 ((zbg acs x.i).p.tmod 8) 0 := by rw [hy0, lhX, if_neg h3]
     refine ⟨fun _ _ _ _ => trivial, fun _ _ _ _ => trivial, fun i j hi hj => ?_, fun _ _ _ _ => trivial, hy0⟩
     subst e
     rfl
   · have hi := hin hlt
     have ha := hl _ (zyu hi)
     have hn := yip hx2 ha hk1 hi
     have hg := yge hx2 ha hk1
     have ho := zzi hx2 ha hk1
     have hxo := (zzj ha).2
     have hr0 := hx2.r0
     have hr1 := hx2.r1
     have hwk : IntKind.i64.wrap k = k := by rw [zdi]; omega
     have hwr : zc6 .i64 x.r 1 = x.r + 1 := by
       unfold zc6
       rw [zdi]; omega
     have hy2 : y = lhX (zbg acs x.i) := by
       have h := hy
       rw [hL] at h
       exact h
     clear hy
     (cbv; try simp only [syT, true_and, and_true])
     simp only [hE, hEo, hF, hFo, hEta, hMp, hQ1, hQ1o, hQ0, hQo, hG, hGo, true_and]
     obtain ⟨z0, hz0⟩ : ∃ z : List Le, z = lhL k x.l (zbg acs x.i) := ⟨_, rfl⟩
     refine ⟨?_, ⟨fun h4 => ⟨?_, z0, ?_⟩, fun h4 => ⟨fun h5 => ⟨?_, z0, ?_⟩, fun h5 => ⟨?_, z0, ?_⟩⟩⟩, fun z hz => ?_⟩
     rotate_left 7
     · have hz2 : z = lhL k x.l (zbg acs x.i) := by
         have h := hz
         rw [hL] at h
         have e : zaf (zci std x.l) = x.l := zh6 _
         have h : z = lhL k (zaf (zci std x.l)) (zbg acs x.i) := h
         rw [e] at h
         exact h
       clear hz
       (cbv; try simp only [syT, true_and, and_true])
       obtain ⟨w0, hw0⟩ : ∃ w : Int × Bool, w = (lhR x.r (zbg acs x.i), lhH k x.r x.h (zbg acs x.i)) := ⟨_, rfl⟩
       have hq : ∀ b, L (L and (L (L ieq (L (L za0 y) 0)) (L (L za0 (L (L pr2 200) 0)) 0))) (L (L and (L (L ieq (L (L za0 y) 1)) (L (L za0 (L (L pr2 200) 0)) 1))) (L (L and (L (L ieq (L (L za0 y) 2)) (L (L za0 (L (L pr2 200) 0)) 2))) (L (L and (L (L ieq (L (L za0 y) 3)) (L (L za0 (L (L pr2 200) 0)) 3))) (L (L and (L (L ieq (L (L za0 y) 4)) (L (L za0 (L (L pr2 200) 0)) 4))) (L (L and (L (L ieq (L (L za0 y) 5)) (L (L za0 (L (L pr2 200) 0)) 5))) (L (L and (L (L ieq (L (L za0 y) 6)) (L (L za0 (L (L pr2 200) 0)) 6))) (L (L and (L (L ieq (L (L za0 y) 7)) (L (L za0 (L (L pr2 200) 0)) 7))) (L (L and (L (L ieq (L (L za0 y) 8)) (L (L za0 (L (L pr2 200) 0)) 8))) (L (L and (L (L ieq (L (L za0 y) 9)) (L (L za0 (L (L pr2 200) 0)) 9))) (L (L and (L (L ieq (L (L za0 y) 10)) (L (L za0 (L (L pr2 200) 0)) 10))) (L (L and (L (L ieq (L (L za0 y) 11)) (L (L za0 (L (L pr2 200) 0)) 11))) (L (L and (L (L ieq (L (L za0 y) 12)) (L (L za0 (L (L pr2 200) 0)) 12))) (L (L and (L (L ieq (L (L za0 y) 13)) (L (L za0 (L (L pr2 200) 0)) 13))) (L (L and (L (L ieq (L (L za0 y) 14)) (L (L za0 (L (L pr2 200) 0)) 14))) (L (L and (L (L ieq (L (L za0 y) 15)) (L (L za0 (L (L pr2 200) 0)) 15))) (true)))))))))))))))) = b -> b = decide (lhX (zbg acs x.i) = lhP) := by
         intro b h
         rw [<- h, <- hy2]
         subst hL
         exact yi6 y lhP
       refine ⟨⟨fun hE => ⟨?_, ⟨fun d2 => ⟨w0, ?_⟩, fun d2 => ⟨fun d3 => ⟨w0, ?_⟩, fun d3 => ⟨fun hh => ⟨w0, ?_⟩, fun hh => ⟨w0, ?_⟩⟩⟩⟩⟩, fun hE => ⟨w0, ?_⟩⟩, fun w hw => ?_⟩
       all_goals try have hE := hq _ hE
       all_goals clear hq
       · subst hL; rfl
       · (cbv; try simp only [syT, true_and, and_true])
         have hP := of_decide_eq_true hE.symm
         subst hL
         have d2 : ieq ((zbg acs x.i).d.tmod 4) 2 = true := d2
         rw [zpn] at d2
         refine ⟨fun _ _ _ _ => trivial, fun _ _ _ _ => trivial, fun _ _ _ _ => trivial, ?_, ?_, hw0⟩
         · show x.h = w0.2
           rw [hw0, lhH, if_pos hP, if_pos d2]
         · show 0 = w0.1
           rw [hw0, lhR, if_pos hP, if_pos d2]
       · (cbv; try simp only [syT, true_and, and_true])
         have hP := of_decide_eq_true hE.symm
         subst hL
         have d2 : ieq ((zbg acs x.i).d.tmod 4) 2 = false := d2
         have d3 : ieq ((zbg acs x.i).d.tmod 4) 3 = true := d3
         rw [zpo] at d2
         rw [zpn] at d3
         refine ⟨fun _ _ _ _ => trivial, fun _ _ _ _ => trivial, fun _ _ _ _ => trivial, ?_, ?_, hw0⟩
         · show false = w0.2
           rw [hw0, lhH, if_pos hP, if_neg d2, if_pos d3]
         · show 0 = w0.1
           rw [hw0, lhR, if_pos hP, if_neg d2, if_pos d3]
       · (cbv; try simp only [syT, true_and, and_true])
         have hP := of_decide_eq_true hE.symm
         subst hL
         have d2 : ieq ((zbg acs x.i).d.tmod 4) 2 = false := d2
         have d3 : ieq ((zbg acs x.i).d.tmod 4) 3 = false := d3
         have hh : x.h = true := hh
         rw [zpo] at d2 d3
         refine ⟨fun _ _ _ _ => trivial, fun _ _ _ _ => trivial, fun _ _ _ _ => trivial, ?_, ?_, hw0⟩
         · show true = w0.2
           rw [hw0, lhH, if_pos hP, if_neg d2, if_neg d3, hh, Bool.true_or]
         · show zc6 .i64 x.r 1 = w0.1
           rw [hw0, lhR, if_pos hP, if_neg d2, if_neg d3, hwr]
       · (cbv; try simp only [syT, true_and, and_true])
         have hP := of_decide_eq_true hE.symm
         subst hL
         have d2 : ieq ((zbg acs x.i).d.tmod 4) 2 = false := d2
         have d3 : ieq ((zbg acs x.i).d.tmod 4) 3 = false := d3
         have hh : x.h = false := hh
         rw [zpo] at d2 d3
         refine ⟨fun _ _ _ _ => trivial, fun _ _ _ _ => trivial, fun _ _ _ _ => trivial, ?_, ?_, hw0⟩
         · show ile (IntKind.i64.wrap k) (zc6 .i64 x.r 1) = w0.2
           rw [hw0, lhH, if_pos hP, if_neg d2, if_neg d3, hh, Bool.false_or, hwr, hwk]; rfl
         · show zc6 .i64 x.r 1 = w0.1
           rw [hw0, lhR, if_pos hP, if_neg d2, if_neg d3, hwr]
       · (cbv; try simp only [syT, true_and, and_true])
         have hP := of_decide_eq_false hE.symm
         subst hL
         refine ⟨fun _ _ _ _ => trivial, fun _ _ _ _ => trivial, fun _ _ _ _ => trivial, ?_, ?_, hw0⟩
         · show x.h = w0.2
           rw [hw0, lhH, if_neg hP]
         · show x.r = w0.1
           rw [hw0, lhR, if_neg hP]
       · have hw2 : w = (lhR x.r (zbg acs x.i), lhH k x.r x.h (zbg acs x.i)) := by
           have h := hw
           rw [hL] at h
           exact h
         clear hw
         (cbv; try simp only [syT, true_and, and_true])
         simp only [hE, hEo, hF, hFo, hEta, hMp, hQ1, hQ1o, hQ0, hQo, hG, hGo, true_and]
         have hgz : zb2 z (pr2 200 0) = ⟨lhP, min (lhR x.r (zbg acs x.i)) 255, lhH k x.r x.h (zbg acs x.i)⟩ := by rw [hz2]; exact hg
         have hz9 : z.length <= 9 := by rw [hz2]; exact ho.2.2
         refine ⟨⟨?_, ?_, ?_⟩, fun q => ?_, fun q => ⟨fun q2 => ?_, fun q2 => ⟨x1, ?_⟩⟩⟩
         · subst hL; show z.length <= 1000000; omega
         · subst hL; rw [hz2]; exact ho.1
         · subst hL; exact zss (by omega) (by omega)
         · subst hL
           have q : (!yoh (zb2 z (pr2 200 0)).h w.2) = true := q
           rw [hgz, hw2] at q
           simp [yoh] at q
         · subst hL
           have q2 : ine (zb2 z (pr2 200 0)).d (ykx w.1 255) = true := q2
           rw [hgz, hw2, ymz] at q2
           exact absurd rfl q2
         · (cbv; try simp only [syT, true_and, and_true])
           subst hL
           rw [hx1]
           refine ⟨fun _ _ _ _ => trivial, ⟨congrArg zf5 hz2, fun i j _ _ => congrArg (fun l => leC std (zao l i) j) hz2⟩, fun _ _ _ _ => trivial, congrArg Prod.snd hw2, congrArg Prod.fst hw2, ?_, hn, ?_⟩
           · show zc6 .i64 (zac x.i) 1 = zac (x.i + 1)
             unfold zc6 zac
             rw [zdi]; omega
           · show acs.length - (x.i + 1) < acs.length - x.i
             omega
     · subst hL; rfl
     · subst hL
       exact ⟨show x.l.length <= 1000000 by omega, hx2.ok, by rw [hy2]; exact hxo⟩
     · (cbv; try simp only [syT, true_and, and_true])
       subst hL
       have h4 : ieq ((zbg acs x.i).d.tmod 4) 2 = true := h4
       rw [zpn] at h4
       have e : zic x.l y = z0 := by rw [hz0, lhL, if_pos h4, hy2]
       exact ⟨fun _ _ _ _ => trivial, fun _ _ _ _ => trivial, ⟨congrArg zf5 e, fun i j _ _ => congrArg (fun l => leC std (zao l i) j) e⟩, fun _ _ _ _ => trivial, hz0.trans (congrArg (fun l => lhL k l (zbg acs x.i)) (zh6 x.l).symm)⟩
     · subst hL
       exact ⟨show x.l.length <= 1000000 by omega, hx2.ok, by rw [hy2]; exact hxo⟩
     · (cbv; try simp only [syT, true_and, and_true])
       subst hL
       have h4 : ieq ((zbg acs x.i).d.tmod 4) 2 = false := h4
       have h5 : ieq ((zbg acs x.i).d.tmod 4) 3 = true := h5
       rw [zpo] at h4
       rw [zpn] at h5
       have e : zie x.l y = z0 := by rw [hz0, lhL, if_neg h4, if_pos h5, hy2]
       exact ⟨fun _ _ _ _ => trivial, fun _ _ _ _ => trivial, ⟨congrArg zf5 e, fun i j _ _ => congrArg (fun l => leC std (zao l i) j) e⟩, fun _ _ _ _ => trivial, hz0.trans (congrArg (fun l => lhL k l (zbg acs x.i)) (zh6 x.l).symm)⟩
     · subst hL
       exact ⟨show x.l.length <= 1000000 by omega, hx2.ok, by rw [hy2]; exact hxo⟩
     · (cbv; try simp only [syT, true_and, and_true])
       subst hL
       have h4 : ieq ((zbg acs x.i).d.tmod 4) 2 = false := h4
       have h5 : ieq ((zbg acs x.i).d.tmod 4) 3 = false := h5
       rw [zpo] at h4 h5
       have ek : IntKind.i64.wrap k = k := by rw [zdi]; omega
       have e : ldD x.l (y, IntKind.i64.wrap k) = z0 := by rw [hz0, lhL, if_neg h4, if_neg h5, ek, hy2]; rfl
       exact ⟨fun _ _ _ _ => trivial, fun _ _ _ _ => trivial, ⟨congrArg zf5 e, fun i j _ _ => congrArg (fun l => leC std (zao l i) j) e⟩, fun _ _ _ _ => trivial, hz0.trans (congrArg (fun l => lhL k l (zbg acs x.i)) (zh6 x.l).symm)⟩
   · subst hL; subst hQ; rw [zby]
theorem law_LedgerHolds (acs : List La) (hl : acs.length <= maxLen /\ ∀ y ∈ acs, yh3 y) (k : Int) (hk : (Lit.int .u8 k).wf = true) : zab Tryz.prog 4 [.lst 3 acs.length (avL (laC std) acs), .int .u8 k] (.bool true) :=
 ybx (fun h D vs r => ylu (fun i j hi hj => avLa acs i j hi) r) (yeo acs hl.2 k (by have := bounds_u8 hk; omega))
end Sy
end Go.Proofs.YtlphgephdhadhaaGreat
