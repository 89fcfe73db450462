/-What the functions of package sum, and the reference's, compute: one contract a function. Chapters 1 and 2: what their functions compute, as summaries for the executor; and what stands between these and the texts behind.-/
import Derived.Test.YtcgikjfloloekaaGreatDoorM3
import Derived.RegionTactic
import Derived.BigRegion
import Derived.Lib.Builder
namespace Go.Proofs.YtcgikjfloloekaaGreatDoor
open Go.RowKit
def zr0 (n : Nat) : Nat := if n % 2 = 1 then n / 2 ^^^ 2197175160 else n / 2
def zj6 : Nat -> Nat -> Nat
 | 0, n => n
 | i + 1, n => zj6 i (zr0 n)
theorem zhu (i n : Nat) : zj6 (i + 1) n = zr0 (zj6 i n) := by
 induction i generalizing n with
 | zero => rfl
 | succ i ih => rw [zj6, ih]; rfl
def zj7 (n : Nat) (c : UInt8) : Nat := zj6 8 (n ^^^ c.toNat)
def zec (n : Nat) (l : List UInt8) : Nat := l.foldl zj7 n
def crcL (l : List UInt8) : Nat := 4294967295 - zec 4294967295 l
theorem ygz {n : Nat} (h : n < 4294967296) : zr0 n < 4294967296 := by
 unfold zr0
 split
 · exact Nat.xor_lt_two_pow (n := 32) (by omega) (by omega)
 · omega
theorem zp5 (i : Nat) {n : Nat} (h : n < 4294967296) : zj6 i n < 4294967296 := by
 induction i generalizing n with
 | zero => exact h
 | succ i ih => exact ih (ygz h)
theorem zij {n : Nat} (c : UInt8) (h : n < 4294967296) : n ^^^ c.toNat < 4294967296 :=
 Nat.xor_lt_two_pow (n := 32) h (by have := c.toNat_lt; omega)
theorem zvs {n : Nat} (c : UInt8) (h : n < 4294967296) : zj7 n c < 4294967296 := zp5 8 (zij c h)
theorem znc (l : List UInt8) {n : Nat} (h : n < 4294967296) : zec n l < 4294967296 := by
 induction l generalizing n with
 | nil => exact h
 | cons c l ih => exact ih (zvs c h)
theorem zoo {α β : Type} (f : β -> α -> β) (b : β) (l : List α) (a : α) : (l ++ [a]).foldl f b = f (l.foldl f b) a := by simp
theorem zqm (n : Nat) (a b : List UInt8) : zec n (a ++ b) = zec (zec n a) b := by simp [zec]
theorem znb (n : Nat) (l : List UInt8) (k : Nat) (h : k < l.length) : zec n (l.take (k + 1)) = zj7 (zec n (l.take k)) l[k] := by
 rw [List.take_succ_eq_append_getElem h]; exact zoo zj7 n _ _
theorem yki (x : Nat) (h : x < 4294967296) : bits .and .u32 (x : Int) 1 = (x : Int) % 2 := by
 have := u32_and_nat x 1 h (by decide)
 rw [nat_mask1, show ((x % 2 : Nat) : Int) = (x : Int) % 2 by omega] at this
 exact this
theorem zlz (a b : Nat) (ha : a < 4294967296) (hb : b < 4294967296) (u v : Int) (hu : u = a) (hv : v = b) : bits .xor .u32 u v = ((a ^^^ b : Nat) : Int) := by
 subst hu; subst hv; exact u32_xor_nat a b ha hb
theorem zww (x : Nat) (h : x < 4294967296) : bits .xor .u32 ((x : Int) / 2) 2197175160 = ((x / 2 ^^^ 2197175160 : Nat) : Int) :=
 zlz _ _ (by omega) (by omega) _ _ (by omega) (by omega)
theorem zkx (x : Nat) (c : UInt8) (h : x < 4294967296) : bits .xor .u32 (x : Int) (c.toNat : Int) = ((x ^^^ c.toNat : Nat) : Int) :=
 u32_xor_nat x c.toNat h (by have := c.toNat_lt; omega)
theorem yx5 (x : Nat) (h : x < 4294967296) : 4294967295 ^^^ x = 4294967295 - x := by
 have h1 : (BitVec.allOnes 32 ^^^ BitVec.ofNat 32 x).toNat = (~~~ (BitVec.ofNat 32 x)).toNat := by rw [BitVec.allOnes_xor]
 rw [BitVec.toNat_xor, BitVec.toNat_not, BitVec.toNat_allOnes, BitVec.toNat_ofNat, Nat.mod_eq_of_lt (by omega)] at h1
 exact h1
theorem ydj (x : Nat) (h : x < 4294967296) : bits .xor .u32 IntKind.u32.max (x : Int) = ((4294967295 - x : Nat) : Int) := by
 rw [<- yx5 x h]
 exact zlz 4294967295 x (by omega) h _ _ (by decide) rfl
set_option maxRecDepth 100000 in
set_option maxHeartbeats 400000 in
theorem zvr (n : Nat) (c : UInt8) (w : World) (hn : n < 4294967296) :
   Calls Tryz.prog 118 #[.int .u32 n, .int .u8 c.toNat] w fun e w' => e = .returned (.int .u32 (zj7 n c)) /\ w = w' := by
 have hx := zkx n c hn
 have hlt := zij c hn
 obtain ⟨s, hs⟩ : ∃ s, s = n ^^^ c.toNat := ⟨_, rfl⟩
 rw [<- hs] at hx hlt
 have Hs := Lib.hid hs
 clear hs
 go_enter Tryz.func118, Tryz.ntmps118
 go_wp2
 refine zfq 0 (fun a' w' => w = w' /\ ∃ (k x : Nat), Hid (x = zj6 k s) /\ k < 8 /\ x < 4294967296 /\ ∃ u1 u2 u3 u4 u6 u7 u8 u9 u10 u11 u12 u13 u14 u15 u16 u17 u18 u19 u20 u21 u22 : Value, a' = ⟨#[.int .u32 (x : Int), u1, u2, u3, u4, .int .i64 (k : Int), u6, u7, u8, u9, u10, u11, u12, u13, u14, u15, u16, u17, u18, u19, u20, u21, u22], []⟩) (fun a' _ => 8 - (intOf (a'.tmps.getD 5 undef)).toNat) rfl ?_ ?_
 · rintro a' w' ⟨rfl, k, x, hx, hk, hxl, u1, u2, u3, u4, u6, u7, u8, u9, u10, u11, u12, u13, u14, u15, u16, u17, u18, u19, u20, u21, u22, rfl⟩
   have h1 := yki x hxl
   have h2 := zww x hxl
   by_cases hodd : x % 2 = 1
   · have e1 : ((x : Int) % 2 == 1) = true := by rw [beq_iff_eq]; omega
     have e2 : zj6 (k + 1) s = x / 2 ^^^ 2197175160 := by rw [zhu, <- hx.out, zr0, if_pos hodd]
     have e3 : x / 2 ^^^ 2197175160 < 4294967296 := by rw [<- e2]; exact zp5 _ hlt
     have E2 := Lib.hid e2
     clear e2 hodd
     go_wp2
     · go_step3
       exact ⟨rfl, ⟨rfl, k + 1, _, Lib.hid E2.out.symm, by omega, e3, _, _, _, _, _, _, _, _, _, _, _, _, _, _, _, _, _, _, _, _, _, by go_num⟩, by simp [intOf] <;> omega⟩
     · go_ret
       refine ⟨?_, rfl⟩
       have : zj7 n c = _ := (show zj7 n c = zj6 (k + 1) s by rw [zj7, Hs.out]; congr 1; omega).trans E2.out
       rw [this]; rfl
   · have e1 : ((x : Int) % 2 == 1) = false := by rw [beq_eq_false_iff_ne]; omega
     have e2 : zj6 (k + 1) s = x / 2 := by rw [zhu, <- hx.out, zr0, if_neg hodd]
     have e3 : x / 2 < 4294967296 := by omega
     have E2 := Lib.hid e2
     clear e2 hodd
     go_wp2
     · go_step3
       exact ⟨rfl, ⟨rfl, k + 1, _, Lib.hid E2.out.symm, by omega, e3, _, _, _, _, _, _, _, _, _, _, _, _, _, _, _, _, _, _, _, _, _, by go_num⟩, by simp [intOf] <;> omega⟩
     · go_ret
       refine ⟨?_, rfl⟩
       have : zj7 n c = _ := (show zj7 n c = zj6 (k + 1) s by rw [zj7, Hs.out]; congr 1; omega).trans E2.out
       rw [this]; rfl
 · intro hP
   go_wp2
   go_step3
   simp only [Exit.then]
   apply_assumption
   exact hP.out _ _ ⟨rfl, 0, s, Lib.hid rfl, by omega, hlt, _, _, _, _, _, _, _, _, _, _, _, _, _, _, _, _, _, _, _, _, _, rfl⟩
def zvk (w : World) (g : Nat) (ps : List (List UInt8)) : Prop := ∀ j (h : j < ps.length), w.cell? ⟨g, j, none⟩ = some (.string ⟨ps[j].toArray⟩)
def yal (ps : List (List UInt8)) : List UInt8 := ps.flatten
theorem yel (ps : List (List UInt8)) (k : Nat) (h : k < ps.length) : (ps.take (k + 1)).flatten = (ps.take k).flatten ++ ps[k] := by
 rw [List.take_succ_eq_append_getElem h, List.flatten_append]; simp only [List.flatten_cons, List.flatten_nil, List.append_nil]
set_option maxRecDepth 100000 in
set_option maxHeartbeats 800000 in
theorem ypw (g cap : Nat) (ps : List (List UInt8)) (w : World) (hp : zvk w g ps) (hlen : ps.length <= 1000) (hl : ∀ p ∈ ps, p.length <= 9223372036854775807) :
   Calls Tryz.prog 89 #[.slice (some ⟨g, 0, none⟩) ps.length cap] w fun e w' => e = .returned (.int .u32 (crcL ps.flatten)) /\ w = w' := by
 have Hp := Lib.hid hp
 have Hl := Lib.hid hl
 clear hp hl
 go_enter Tryz.func89, Tryz.ntmps89
 go_wp2
 go_loop [3, 9] (fun n i => ∃ k x : Nat, k <= ps.length /\ x < 4294967296 /\ Hid (x = zec 4294967295 (ps.take k).flatten) /\ i = .int .i64 k /\ n = .int .u32 x) (fun _ i => ps.length - (intOf i).toNat)
 case atStart => exact ⟨0, 4294967295, by omega, by omega, Lib.hid rfl, rfl, rfl⟩
 case round =>
   obtain ⟨k, x, hk, hx, hX, rfl, rfl⟩ := hrel
   by_cases hlt : k < ps.length
   · obtain ⟨p, hpk⟩ : ∃ p, p = ps[k] := ⟨_, rfl⟩
     have hc := Hp.out k hlt
     rw [<- hpk] at hc
     have hpl := Hl.out p (by rw [hpk]; exact List.getElem_mem hlt)
     have Hpk := Lib.hid hpk
     clear hpk
     go_wp2
     go_loop [3, 15] (fun n i => ∃ j y : Nat, j <= p.length /\ y < 4294967296 /\ Hid (y = zec x (p.take j)) /\ i = .int .i64 j /\ n = .int .u32 y) (fun _ i => p.length - (intOf i).toNat)
     case atStart => exact ⟨0, x, by omega, hx, Lib.hid rfl, rfl, rfl⟩
     case round =>
       obtain ⟨j, y, hj, hy, hY, rfl, rfl⟩ := hrel
       by_cases hjt : j < p.length
       · obtain ⟨z, hz⟩ : ∃ z, z = zj7 y p[j] := ⟨_, rfl⟩
         have hs := Lib.hid (fun w => zvr y p[j] w hy)
         rw [<- hz] at hs
         have hzl : z < 4294967296 := by rw [hz]; exact zvs _ hy
         have hZ : Hid (z = zec x (p.take (j + 1))) := Lib.hid (by rw [znb x p j hjt, hz, hY.out])
         clear hz
         go_wp2_with fail
         refine (hs.out _).mono ?_
         rintro e w' ⟨rfl, rfl⟩
         go_wp2_with fail
         go_round
         case rel => exact ⟨j + 1, z, by omega, hzl, hZ, by go_num, by go_num⟩
         case measure => simp [intOf] <;> omega
       · go_wp2_with fail
         go_round
         case rel => exact ⟨k + 1, y, by omega, hy, Lib.hid (by rw [yel ps k hlt, zqm, <- hX.out, <- Hpk.out, hY.out, List.take_of_length_le (by omega)]), by go_num, by go_num⟩
         case measure => simp [intOf] <;> omega
   · have hn := ydj x hx
     go_wp2
     go_ret
     exact ⟨ztj (by rw [hX.out, List.take_of_length_le (by omega)]; rfl), rfl⟩
set_option maxRecDepth 100000 in
set_option maxHeartbeats 800000 in
theorem yhr (l : List UInt8) (w : World) (hl : l.length <= 9223372036854775807) :
   Calls Tryz.prog 108 #[.string ⟨l.toArray⟩] w fun e w' => e = .returned (.int .u32 (crcL l)) /\ w = w' := by
 go_enter Tryz.func108, Tryz.ntmps108
 go_wp2
 go_loop [3, 4] (fun n i => ∃ j y : Nat, j <= l.length /\ y < 4294967296 /\ Hid (y = zec 4294967295 (l.take j)) /\ i = .int .i64 j /\ n = .int .u32 y) (fun _ i => l.length - (intOf i).toNat)
 case atStart => exact ⟨0, 4294967295, by omega, by omega, Lib.hid rfl, rfl, rfl⟩
 case round =>
   obtain ⟨j, y, hj, hy, hY, rfl, rfl⟩ := hrel
   by_cases hjt : j < l.length
   · obtain ⟨s, hs⟩ : ∃ s, s = y ^^^ l[j].toNat := ⟨_, rfl⟩
     have hq1 := zkx y l[j] hy
     have hsl := zij l[j] hy
     rw [<- hs] at hq1 hsl
     have Hs := Lib.hid hs
     clear hs
     go_wp2
     go_loop [3, 5] (fun n i => ∃ k x : Nat, k <= 8 /\ x < 4294967296 /\ Hid (x = zj6 k s) /\ i = .int .i64 k /\ n = .int .u32 x) (fun _ i => 8 - (intOf i).toNat)
     case atStart => exact ⟨0, s, by omega, hsl, Lib.hid rfl, rfl, rfl⟩
     case round =>
       obtain ⟨k, x, hk, hxl, hx, rfl, rfl⟩ := hrel
       by_cases hk8 : k < 8
       · have h2 := zww x hxl
         by_cases hodd : x % 2 = 1
         · have e1 : ((x : Int) % 2 == 1) = true := by rw [beq_iff_eq]; omega
           have e2 : zj6 (k + 1) s = x / 2 ^^^ 2197175160 := by rw [zhu, <- hx.out, zr0, if_pos hodd]
           have e3 : x / 2 ^^^ 2197175160 < 4294967296 := by rw [<- e2]; exact zp5 _ hsl
           have E2 := Lib.hid e2
           clear e2 hodd
           go_wp2
           go_round
           case rel => exact ⟨k + 1, _, by omega, e3, Lib.hid E2.out.symm, by go_num, by go_num⟩
           case measure => simp [intOf] <;> omega
         · have e1 : ((x : Int) % 2 == 1) = false := by rw [beq_eq_false_iff_ne]; omega
           have e2 : zj6 (k + 1) s = x / 2 := by rw [zhu, <- hx.out, zr0, if_neg hodd]
           have e3 : x / 2 < 4294967296 := by omega
           have E2 := Lib.hid e2
           clear e2 hodd
           go_wp2
           go_round
           case rel => exact ⟨k + 1, _, by omega, e3, Lib.hid E2.out.symm, by go_num, by go_num⟩
           case measure => simp [intOf] <;> omega
       · go_wp2
         go_round
         case rel => exact ⟨j + 1, x, by omega, hxl, Lib.hid (by rw [znb _ l j hjt, <- hY.out, hx.out, show k = 8 by omega, Hs.out]; rfl), by go_num, by go_num⟩
         case measure => simp [intOf] <;> omega
   · go_wp2
     go_ret
     exact ⟨ztj (by rw [crcL, hY.out, List.take_of_length_le (by omega)]; have := znc l (n := 4294967295) (by decide); omega), rfl⟩
set_option maxRecDepth 100000 in
set_option maxHeartbeats 800000 in
theorem zxk (l : List UInt8) (w : World) (hl : l.length <= 1000000) :
   Calls Tryz.prog 88 #[.string ⟨l.toArray⟩] w fun e w' => e = .returned (.string ⟨l.reverse.toArray⟩) /\ Below w.heap.size w w' := by
 have hcv := fun w => run_bytes_of_string (P := Tryz.prog) w 9 139 5 ⟨l.toArray⟩ Tryz.underlying9 Tryz.underlying139 Tryz.underlying5
 have hge := grownCap_ge w l.length 0 5
 have Hge := Lib.hid hge
 clear hge
 go_enter Tryz.func88, Tryz.ntmps88
 go_wp2
 go_loopw [10] (fun i wr => ∃ k : Nat, k <= l.length / 2 /\ i = .int .i64 k /\ Row wr w.heap.size 5 l.length (fun t => if t < k \/ l.length - k <= t then zea (l.reverse.getD t 0) else zea (l.getD t 0)) /\ Below w.heap.size w wr) (fun i _ => l.length / 2 - (intOf i).toNat)
 case atStart =>
   refine ⟨0, by omega, rfl, ((Row.bytes w _ l _).drewN 1).congr fun t ht => ?_, ((Below.refl _ _).alloc (Nat.le_refl _) _).drew⟩
   rw [if_neg (by omega)]
 case round =>
   obtain ⟨k, hk, rfl, hrow, hb⟩ := hrel
   clear hcv
   by_cases hlt : k < l.length / 2
   · obtain ⟨m, hm⟩ : ∃ m, m = l.length - 1 - k := ⟨_, rfl⟩
     have c1 := hrow.cell (i := k) (by omega)
     have c2 := hrow.cell (i := m) (by omega)
     have f1 := hrow.frozen (i := k) (by omega)
     have f2 := hrow.frozen (i := m) (by omega)
     have hw1 : IntKind.i64.wrap ((l.length : Int) - 1) = (l.length : Int) - 1 := by rw [IntKind.wrap_i64]; omega
     have hw2 : IntKind.i64.wrap ((l.length : Int) - 1 - (k : Int)) = (m : Int) := by rw [IntKind.wrap_i64]; omega
     have hw3 : (k : Int) < (l.length : Int) := by omega
     have hw4 : (m : Int) < (l.length : Int) := by omega
     rw [if_neg (by omega)] at c1 c2
     obtain ⟨x, hx⟩ : ∃ x, x = l.getD k 0 := ⟨_, rfl⟩
     obtain ⟨y, hy⟩ : ∃ y, y = l.getD m 0 := ⟨_, rfl⟩
     rw [<- hx] at c1
     rw [<- hy] at c2
     unfold zea at c1 c2
     have hkm : m ≠ k := by omega
     have c3 : (wr.setCell ⟨w.heap.size, k, none⟩ (.int .u8 (y.toNat : Int))).cell? ⟨w.heap.size, m, none⟩ = some (.int .u8 (y.toNat : Int)) := by
       rw [World.cell?_setCell_other _ _ _ _ (by intro h; injection h; omega)]; exact c2
     have Hkm := Lib.hid hkm
     clear hkm
     have Hrow := Lib.hid hrow
     have Hb := Lib.hid hb
     have Hm := Lib.hid hm
     have Hx := Lib.hid hx
     have Hy := Lib.hid hy
     clear hrow hb hm hx hy
     go_wp2
     go_region
     go_wp2
     go_roundw
     case rel =>
       refine ⟨k + 1, by omega, by go_num, ?_, ?_⟩
       · refine ((((Hrow.out.set k (.int .u8 (y.toNat : Int))).set m (.int .u8 (x.toNat : Int)))).drewN 1).congr fun t ht => ?_
         have hmo := Hm.out
         by_cases h1 : t = m
         · subst h1
           rw [if_pos rfl, if_pos (by omega), Hx.out]
           have : l.length - 1 - t = k := by omega
           simp [zea, ht, this, show k < l.length by omega]
         · rw [if_neg h1]
           by_cases h2 : t = k
           · subst h2
             rw [if_pos rfl, if_pos (by omega), Hy.out, hmo]
             have : l.length - 1 - t < l.length := by omega
             simp [zea, ht, this]
           · rw [if_neg h2]
             by_cases h3 : t < k \/ l.length - k <= t
             · rw [if_pos h3, if_pos (by omega)]
             · rw [if_neg h3, if_neg (by omega)]
       · exact ((Hb.out.setCell (p := ⟨w.heap.size, k, none⟩) (Nat.le_refl _) _).setCell (p := ⟨w.heap.size, m, none⟩) (Nat.le_refl _) _).drew
     case measure => simp [intOf] <;> omega
   · have hk2 : k = l.length / 2 := by omega
     have hconv := fun cc => yk9 (P := Tryz.prog) (src := 139) (dst := 9) (cap := cc) l.reverse Tryz.underlying139 Tryz.underlying5 Tryz.underlying9 hrow (by simp) (fun i hi => by
       have hi' : i < l.length := by simpa using hi
       by_cases h : i < k \/ l.length - k <= i
       · rw [if_pos h]; simp [hi']
       · rw [if_neg h]
         have h2 : l.length - 1 - i = i := by omega
         simp [hi', h2])
     clear hrow hk2
     go_wp2
     go_ret
     exact ⟨rfl, hb⟩
theorem yd9 (ps : List (List UInt8)) (cs : Array Value) (hcs : cs = (ps.map str).toArray) (w : World) (t : TypeId) : zvk (w.alloc (.cells cs t)) w.heap.size ps := by
 subst hcs
 intro j hj
 rw [cell_of_row _ _ _ _ _ _ (heap_alloc_new w _)]
 simp [hj, str]
theorem ypv (ps : List (List UInt8)) (cs : Array Value) (hcs : cs = (ps.map str).toArray) (n : Nat) (hn : n = ps.length) (hlen : ps.length <= 1000) (hl : ∀ p ∈ ps, p.length <= 9223372036854775807) (r : Nat) (hr : r = crcL ps.flatten) (g : Nat) (w : World) (hg : g = w.heap.size) :
   Calls Tryz.prog 89 #[.slice (some ⟨g, 0, none⟩) n n] (w.alloc (.cells cs 9)) fun e w' => e = .returned (.int .u32 r) /\ w.alloc (.cells cs 9) = w' := by
 subst hn hr hg
 exact ypw _ _ ps _ (yd9 ps cs hcs w _) hlen hl
def le4 (n : Nat) : List UInt8 := [UInt8.ofNat n, UInt8.ofNat (n / 256), UInt8.ofNat (n / 65536), UInt8.ofNat (n / 16777216)]
def zeh (l : List UInt8) : List UInt8 := l ++ le4 (crcL l)
theorem yte (n : Nat) : (zie n (cl8 4)).reverse = le4 n := by
 have : cl8 4 = 4 := by decide
 rw [this]
 simp [zie, le4]
theorem yfj (l : List UInt8) : crcL l < 4294967296 := by unfold crcL; omega
theorem zl5 (l : List UInt8) : (zeh l).length = l.length + 4 := by simp [zeh, le4]
set_option maxRecDepth 100000 in
set_option maxHeartbeats 800000 in
theorem zpz (l : List UInt8) (w : World) (hl : l.length <= 1000000) :
   Calls Tryz.prog 58 #[.string ⟨l.toArray⟩] w fun e w' => e = .returned (.string ⟨(zeh l).toArray⟩) /\ Below w.heap.size w w' := by
 obtain ⟨c, hc⟩ : ∃ c, c = crcL l := ⟨_, rfl⟩
 have hcl := yfj l
 rw [<- hc] at hcl
 have C1 := Lib.hid (ypv [l] #[.string ⟨l.toArray⟩] rfl 1 rfl (by simp) (by simp; omega) c (by simp [hc]))
 obtain ⟨p, hp⟩ : ∃ p, p = zie c (cl8 4) := ⟨_, rfl⟩
 have P1 := Lib.hid (ysj c 4 p (by omega) hp)
 have hpl : p.length <= 1000000 := by rw [hp, zd2]; have := yfp 4; omega
 have hpl4 : p.reverse.length <= 100 := by rw [List.length_reverse, hp, zd2]; have := yfp 4; omega
 have T1 := Lib.hid (fun w => zxk p w hpl)
 have hr : zeh l = l ++ p.reverse := by rw [zeh, <- hc, <- yte, hp]
 have Hr := Lib.hid hr
 clear hr hp hc
 go_enter Tryz.func58, Tryz.ntmps58
 go_wp2_with fail
 refine (C1.out _ w rfl).mono ?_
 rintro e w1 ⟨rfl, rfl⟩
 go_wp2_with fail
 refine (P1.out _).mono ?_
 rintro e w2 ⟨rfl, hb2⟩
 go_wp2_with fail
 refine (T1.out _).mono ?_
 rintro e w3 ⟨rfl, hb3⟩
 go_wp2
 go_ret
 exact ⟨zkk Hr.out.symm, (((Below.refl _ _).alloc (Nat.le_refl _) _).trans' hb2).trans' hb3⟩
theorem yfn {P : Program} {src dst e : TypeId} (hs : P.underlying src = some (.slice e)) (he : P.underlying e = some (.int .u8)) (hd : P.underlying dst = some .string) (W : World) (x0 x1 x2 x3 : Int) (b0 b1 b2 b3 : UInt8)
   (h0 : (b0.toNat : Int) = x0) (h1 : (b1.toNat : Int) = x1) (h2 : (b2.toNat : Int) = x2) (h3 : (b3.toNat : Int) = x3) :
   (convert src dst (.slice (some ⟨W.heap.size, 0, none⟩) 4 4)).run P (W.alloc (.cells #[.int .u8 x0, .int .u8 x1, .int .u8 x2, .int .u8 x3] e)) = .ok (.string ⟨[b0, b1, b2, b3].toArray⟩) (W.alloc (.cells #[.int .u8 x0, .int .u8 x1, .int .u8 x2, .int .u8 x3] e)) := by
 subst h0 h1 h2 h3
 refine zqn (n := 4) (f := fun i => zea ([b0, b1, b2, b3].getD i 0)) [b0, b1, b2, b3] hs he hd (World.rowIs_alloc W #[zea b0, zea b1, zea b2, zea b3] e _ ?_) rfl ?_
 · intro i hi
   match i, hi with
   | 0, _ => rfl
   | 1, _ => rfl
   | 2, _ => rfl
   | 3, _ => rfl
 · intro i hi
   match i, hi with
   | 0, _ => rfl
   | 1, _ => rfl
   | 2, _ => rfl
   | 3, _ => rfl
set_option maxRecDepth 100000 in
set_option maxHeartbeats 800000 in
theorem ycj (l : List UInt8) (w : World) (hl : l.length <= 1000000) :
   Calls Tryz.prog 74 #[.string ⟨l.toArray⟩] w fun e w' => e = .returned (.string ⟨(zeh l).toArray⟩) /\ Below w.heap.size w w' := by
 obtain ⟨c, hc⟩ : ∃ c, c = crcL l := ⟨_, rfl⟩
 have hcl := yfj l
 have C1 := Lib.hid (fun w => yhr l w (by omega))
 rw [<- hc] at hcl C1
 have hr : zeh l = l ++ le4 c := by rw [zeh, <- hc]
 have Hr := Lib.hid hr
 clear hr hc
 have hcv := fun W => yfn (P := Tryz.prog) Tryz.underlying139 Tryz.underlying5 Tryz.underlying9 W ((c : Int) % 256) ((c : Int) / 256 % 256) ((c : Int) / 65536 % 256) ((c : Int) / 16777216) (UInt8.ofNat c) (UInt8.ofNat (c / 256)) (UInt8.ofNat (c / 65536)) (UInt8.ofNat (c / 16777216))
   (ofNat_toNat _) (by rw [ofNat_toNat]; omega) (by rw [ofNat_toNat]; omega) (by rw [ofNat_toNat]; omega)
 go_enter Tryz.func74, Tryz.ntmps74
 go_wp2_with fail
 refine (C1.out _).mono ?_
 rintro e w1 ⟨rfl, rfl⟩
 go_wp2
 go_ret
 exact ⟨zkk Hr.out.symm, (Below.refl _ _).alloc (Nat.le_refl _) _⟩
set_option maxRecDepth 100000 in
set_option maxHeartbeats 800000 in
theorem zv2 (l : List UInt8) (w : World) (hl : l.length < 4) :
   Calls Tryz.prog 93 #[.string ⟨l.toArray⟩] w fun e w' => e = .returned (.tuple #[.string ⟨#[]⟩, .int .i64 3]) /\ w = w' := by
 go_enter Tryz.func93, Tryz.ntmps93
 go_wp2
 go_ret2
 exact ⟨rfl, rfl⟩
set_option maxRecDepth 100000 in
set_option maxHeartbeats 800000 in
theorem ykb (l : List UInt8) (w : World) (hl : l.length <= 1000000) :
   Calls Tryz.prog 93 #[.string ⟨(zeh l).toArray⟩] w fun e w' => e = .returned (.tuple #[.string ⟨l.toArray⟩, .int .i64 0]) /\ Below w.heap.size w w' := by
 obtain ⟨m, hm⟩ : ∃ m, m = zeh l := ⟨_, rfl⟩
 have M1 := Lib.hid (fun w => zpz l w hl)
 have hlen := zl5 l
 rw [<- hm] at M1 hlen |-
 have ht : m.take l.length = l := by rw [hm, zeh]; simp
 have h4 : 4 <= m.length := by omega
 have h5 : m.length <= 2000000 := by omega
 have hl4 : ((m.length : Int) - 4) = l.length := by omega
 clear hm hlen
 go_enter Tryz.func93, Tryz.ntmps93
 go_wp2_with fail
 refine (M1.out _).mono ?_
 rintro e w1 ⟨rfl, hb⟩
 go_wp2
 go_ret2
 exact ⟨rfl, hb⟩
set_option maxRecDepth 100000 in
set_option maxHeartbeats 800000 in
theorem yfs (l t : List UInt8) (w : World) (hl : l.length <= 1000000) (h4 : 4 <= l.length) (ht : t = l.take (l.length - 4)) (hne : zeh t ≠ l) :
   Calls Tryz.prog 93 #[.string ⟨l.toArray⟩] w fun e w' => e = .returned (.tuple #[.string ⟨#[]⟩, .int .i64 9]) /\ Below w.heap.size w w' := by
 have htl : t.length <= 1000000 := by rw [ht, List.length_take]; omega
 have M1 := Lib.hid (fun w => zpz t w htl)
 obtain ⟨m, hm⟩ : ∃ m, m = zeh t := ⟨_, rfl⟩
 rw [<- hm] at M1 hne
 have hb : (m == l) = false := by rw [beq_eq_false_iff_ne]; exact hne
 obtain ⟨k, hk⟩ : ∃ k, k = l.length - 4 := ⟨_, rfl⟩
 have hl4 : ((l.length : Int) - 4) = k := by omega
 rw [<- hk] at ht
 have ht' := ht.symm
 clear hm hk ht
 go_enter Tryz.func93, Tryz.ntmps93
 go_wp2_with fail
 refine (M1.out _).mono ?_
 rintro e w1 ⟨rfl, hb⟩
 go_wp2
 go_ret2
 exact ⟨rfl, hb⟩
end Go.Proofs.YtcgikjfloloekaaGreatDoor
namespace Go.Proofs.YtcgikjfloloekaaGreatDoor
namespace Sy
open Go Go.RowKit
set_option maxRecDepth 100000
def yai (e n : Int) : List UInt8 := zie e.toNat (cl8 n)
def znu (l : List UInt8) : Int := zon l
def yd1 (e n : Int) : Prop := 0 <= e /\ e < 18446744073709551616 /\ -9223372036854775808 <= n /\ n <= 9223372036854775807
def yjm (l : List UInt8) : Prop := 1 <= l.length /\ l.length <= 8
def upto (n : Nat) (l : List UInt8) : Prop := l.length <= n
def zt1 (l : List UInt8) : Int := if l.length < 4 then 3 else if zeh (l.take (l.length - 4)) = l then 0 else 9
def yvw (l : List UInt8) : List UInt8 := if l.length < 4 then [] else if zeh (l.take (l.length - 4)) = l then l.take (l.length - 4) else []
def ycy (L : za9) : zbn := (59, fun xs => match xs with | [.int .u64 e, .int .i64 n] => some (L2 L yd1 e n, .str (L2 L yai e n)) | _ => none)
def ycc (L : za9) : zbn := (75, fun xs => match xs with | [.int .u64 e, .int .i64 n] => some (L2 L yd1 e n, .str (L2 L yai e n)) | _ => none)
def yp5 (L : za9) : zbn := (92, fun xs => match xs with | [.str l] => some (L yjm l, .tup [.int .u64 (L znu l), .int .i64 0]) | _ => none)
def ycl (L : za9) : zbn := (109, fun xs => match xs with | [.str l] => some (L yjm l, .int .u64 (L znu l)) | _ => none)
def ye1 (L : za9) : zbn := (58, fun xs => match xs with | [.str l] => some (L2 L upto 1000000 l, .str (L zeh l)) | _ => none)
def zth (L : za9) : zbn := (74, fun xs => match xs with | [.str l] => some (L2 L upto 1000000 l, .str (L zeh l)) | _ => none)
def zv3 (L : za9) : zbn := (93, fun xs => match xs with | [.str l] => some (L2 L upto 1000000 l, .tup [.str (L yvw l), .int .i64 (L zt1 l)]) | _ => none)
theorem zvo {x y : AV} {v u : Value} (hx : ∀ h D, R h D zav x v) (hy : ∀ h D, R h D zav y u) : ∀ h D, R h D zav (.tup [x, y]) (.tuple #[v, u]) := by
 intro h D
 refine .tup _ _ rfl ?_
 intro i z t hz ht
 match i with
 | 0 => simp at hz ht; subst hz ht; exact hx h D
 | 1 => simp at hz ht; subst hz ht; exact hy h D
 | i + 2 => simp at hz
theorem znt (k : IntKind) (n : Int) : ∀ h D, R h D zav (.int k n) (.int k n) := fun _ _ => .int k n
theorem zjq {e : Int} (h : 0 <= e) : ∃ n : Nat, e = n := ⟨e.toNat, by omega⟩
theorem zpi : zay Tryz.prog (ycy std) := by
 intro xs p r h hp
 dsimp only [ycy] at h |-
 split at h <;> cases h
 rename_i e n
 obtain ⟨h0, h1, h2, h3⟩ : yd1 e n := hp
 obtain ⟨k, rfl⟩ := zjq h0
 exact zb0 (fn := Tryz.f59) rfl rfl (by kernel_rfl) (zvi (zcm _ _) (zcm _ _)) (fun h D => znp h D _ _) (fun w => yd0 k n w (by omega))
theorem ycd : zay Tryz.prog (ycc std) := by
 intro xs p r h hp
 dsimp only [ycc] at h |-
 split at h <;> cases h
 rename_i e n
 obtain ⟨h0, h1, h2, h3⟩ : yd1 e n := hp
 obtain ⟨k, rfl⟩ := zjq h0
 exact zb0 (fn := Tryz.f75) rfl rfl (by kernel_rfl) (zvi (zcm _ _) (zcm _ _)) (fun h D => znp h D _ _) (fun w => yhi k n w (by omega) h2 h3)
theorem yjl : zay Tryz.prog (yp5 std) := by
 intro xs p r h hp
 dsimp only [yp5] at h |-
 split at h <;> cases h
 rename_i l
 obtain ⟨h1, h8⟩ : yjm l := hp
 exact zb0 (fn := Tryz.f92) rfl rfl (by kernel_rfl) (zsm (zbz _)) (zvo (znt _ _) (znt _ _)) (zem fun w => yp7 l w h1 h8)
theorem ycm : zay Tryz.prog (ycl std) := by
 intro xs p r h hp
 dsimp only [ycl] at h |-
 split at h <;> cases h
 rename_i l
 obtain ⟨h1, h8⟩ : yjm l := hp
 exact zb0 (fn := Tryz.f109) rfl rfl (by kernel_rfl) (zsm (zbz _)) (znt _ _) (zem fun w => yhn l w h8)
theorem ye2 : zay Tryz.prog (ye1 std) := by
 intro xs p r h hp
 dsimp only [ye1] at h |-
 split at h <;> cases h
 exact zb0 (fn := Tryz.f58) rfl rfl (by kernel_rfl) (zsm (zbz _)) (fun h D => znp h D _ _) (fun w => zpz _ w hp)
theorem zy9 : zay Tryz.prog (zth std) := by
 intro xs p r h hp
 dsimp only [zth] at h |-
 split at h <;> cases h
 exact zb0 (fn := Tryz.f74) rfl rfl (by kernel_rfl) (zsm (zbz _)) (fun h D => znp h D _ _) (fun w => ycj _ w hp)
theorem zzo : zay Tryz.prog (zv3 std) := by
 intro xs p r h hp
 dsimp only [zv3] at h |-
 split at h <;> cases h
 rename_i l
 have hl : l.length <= 1000000 := hp
 show za7 _ _ _ (.tup [.str (yvw l), .int .i64 (zt1 l)])
 by_cases h4 : l.length < 4
 · rw [yvw, zt1, if_pos h4, if_pos h4]
   exact zb0 (fn := Tryz.f93) rfl rfl (by kernel_rfl) (zsm (zbz _)) (zvo (fun h D => znp h D _ _) (znt _ _)) (zem fun w => zv2 l w h4)
 · rw [yvw, zt1, if_neg h4, if_neg h4]
   by_cases hm : zeh (l.take (l.length - 4)) = l
   · rw [if_pos hm, if_pos hm]
     refine zb0 (fn := Tryz.f93) rfl rfl (by kernel_rfl) (zsm (zbz _)) (zvo (fun h D => znp h D _ _) (znt _ _)) (fun w => ?_)
     have := ykb (l.take (l.length - 4)) w (by simp; omega)
     rwa [hm] at this
   · rw [if_neg hm, if_neg hm]
     exact zb0 (fn := Tryz.f93) rfl rfl (by kernel_rfl) (zsm (zbz _)) (zvo (fun h D => znp h D _ _) (znt _ _)) (fun w => yfs l _ w hl (by omega) rfl hm)
end Sy
end Go.Proofs.YtcgikjfloloekaaGreatDoor
namespace Go.Proofs.YtcgikjfloloekaaGreatDoor
namespace Sy
open Go Go.RowKit
set_option maxRecDepth 100000
set_option linter.unusedSimpArgs false
set_option linter.unusedVariables false
def yru (n c : Int) : Int := zj7 n.toNat (UInt8.ofNat c.toNat)
def yks (n c : Int) : Prop := 0 <= n /\ n < 4294967296 /\ 0 <= c /\ c < 256
def ybc (L : za9) : zbn := (118, fun xs => match xs with | [.int .u32 n, .int .u8 c] => some (L2 L yks n c, .int .u32 (L2 L yru n c)) | _ => none)
theorem ybd : zay Tryz.prog (ybc std) := by
 intro xs p r h hp
 dsimp only [ybc] at h |-
 split at h <;> cases h
 try simp only [L2, L3, std] at hp |-
 rename_i n c
 obtain ⟨h0, h1, h2, h3⟩ : yks n c := hp
 obtain ⟨k, rfl⟩ := zjq h0
 obtain ⟨b, rfl⟩ := zjq h2
 have e : ((UInt8.ofNat b).toNat : Int) = b := by rw [UInt8.toNat_ofNat']; omega
 have := fun w => zvr k (UInt8.ofNat b) w (by omega)
 rw [e] at this
 exact zb0 (fn := Tryz.f118) rfl rfl (by kernel_rfl) (zvi (zcm _ _) (zcm _ _)) (znt _ _) (zem this)
def zqd (p : Nat -> List UInt8) : Nat -> List UInt8
 | 0 => []
 | n + 1 => zqd p n ++ p n
def yra (p : Nat -> List UInt8) (k : Int) (j : Nat) : Int := zec 4294967295 (zqd p k.toNat ++ (p k.toNat).take j)
def crcA (n : Nat) (p : Nat -> List UInt8) (L : za9) : Nat -> St -> Option Ann := fun id s => match id with
 | 0 => some ⟨Nat, fun k => [(9, .int .i64 (L zbu k)), (3, .int .u32 (L3 L yra p (L zbu k) 0))], fun _ => [], [7, 8], [], fun k => L2 L Nat.le k n, fun k => L2 L Nat.sub n k⟩
 | 2 => ym3 s 13 fun l => zgj s 9 fun k => some ⟨Nat, fun j => [(15, .int .i64 (L zbu j)), (3, .int .u32 (L3 L yra p k j))], fun _ => [], [7, 8, 9, 5, 13, 14], [], fun j => L2 L (fun (j : Nat) (l : List UInt8) => j <= l.length) j l, fun j => L2 L (fun (j : Nat) (l : List UInt8) => l.length - j) j l⟩
 | _ => none
theorem yud (n : Nat) (p : Nat -> List UInt8) (hn : n <= 1000) (hp : ∀ i, i < n -> (p i).length <= 1000000) : za7 Tryz.prog 89 [.lst 1 n (fun i _ => .str (p i))] (.int .u32 (crcL (zqd p n))) := by
 refine za5 (T := tt) (S := fun L => zai [ybc L]) (lo := crcA n p) (lb := noA) 5 (fn := Tryz.f89) rfl rfl (by kernel_rfl) (by kernel_rfl) rfl zaa (za1 ⟨ybd, trivial⟩) (by kernel_rfl) ?_
 intro L P' Q' hL hP hQ
 (cbv; try simp only [syT, true_and, and_true])
 refine ⟨⟨0, ?_⟩, fun x hx => ?_⟩
 · (cbv; try simp only [syT, true_and, and_true])
   (subst hL; subst hQ; simp only [L2, L3, std]; try simp only [syS, reduceCtorEq, Int.reduceToNat, Int.reduceAdd, Int.reduceSub])
   exact ⟨rfl, Nat.zero_le n⟩
 · (cbv; try simp only [syT, true_and, and_true])
   refine ⟨fun h => ⟨?_, ⟨0, ?_⟩, fun y hy => ?_⟩, fun h => ?_⟩
   · (subst hL; subst hQ; simp only [L2, L3, std] at *; try simp only [syS, reduceCtorEq, Int.reduceToNat, Int.reduceAdd, Int.reduceSub] at *)
     omega
   · (cbv; try simp only [syT, true_and, and_true])
     (subst hL; subst hQ; simp only [L2, L3, std] at *; try simp only [syS, reduceCtorEq, Int.reduceToNat, Int.reduceAdd, Int.reduceSub] at *)
     exact Nat.zero_le _
   · cbv at hy
     (cbv; try simp only [syT, true_and, and_true])
     refine ⟨fun h' => ⟨?_, ?_, ⟨y + 1, ?_⟩⟩, fun h' => ⟨x + 1, ?_⟩⟩
     · (subst hL; subst hQ; simp only [L2, L3, std] at *; try simp only [syS, reduceCtorEq, Int.reduceToNat, Int.reduceAdd, Int.reduceSub] at *)
       omega
     · (subst hL; subst hQ; simp only [L2, L3, std] at *; try simp only [syS, reduceCtorEq, Int.reduceToNat, Int.reduceAdd, Int.reduceSub] at *)
       have := znc (zqd p x ++ (p x).take y) (n := 4294967295) (by omega)
       have h8 := ((p x).getD y 0).toNat_lt
       exact ⟨Int.natCast_nonneg _, by simp only [yra, Int.toNat_natCast]; omega, by omega, by omega⟩
     · (cbv; try simp only [syT, true_and, and_true])
       (subst hL; subst hQ; simp only [L2, L3, std] at *; try simp only [syS, reduceCtorEq, Int.reduceToNat, Int.reduceAdd, Int.reduceSub] at *)
       have e : zec 4294967295 (zqd p x ++ (p x).take (y + 1)) = zj7 (zec 4294967295 (zqd p x ++ (p x).take y)) ((p x).getD y 0) := by
         rw [List.take_succ_eq_append_getElem (by omega), <- List.append_assoc, zec, zoo, yjo _ _ _ (by omega)]
         rfl
       have := hp x (by omega)
       refine ⟨?_, by omega, by omega, by omega⟩
       simp only [yru, yra, Int.toNat_natCast]
       rw [e, UInt8.ofNat_toNat]
     · (cbv; try simp only [syT, true_and, and_true])
       (subst hL; subst hQ; simp only [L2, L3, std] at *; try simp only [syS, reduceCtorEq, Int.reduceToNat, Int.reduceAdd, Int.reduceSub] at *)
       refine ⟨?_, by omega, by omega, by omega⟩
       have : y = (p x).length := by omega
       subst this
       simp only [yra, Int.toNat_natCast, List.take_length]
       rw [show zqd p (x + 1) = zqd p x ++ p x from rfl]
       simp
   · (subst hL; subst hQ; simp only [L2, L3, std] at *; try simp only [syS, reduceCtorEq, Int.reduceToNat, Int.reduceAdd, Int.reduceSub] at *)
     have : x = n := by omega
     subst this
     have := znc (zqd p x) (n := 4294967295) (by omega)
     simp only [yra, Int.toNat_natCast, List.take_zero, List.append_nil]
     exact ydj _ this
def zax (n : Int) : Prop := 0 <= n /\ n < 18446744073709551616
def zat (n : Int) : List UInt8 := zdz n.toNat
def zm9 (L : za9) : zbn := (87, fun xs => match xs with | [.int .u64 n] => some (L zax n, .str (L zat n)) | _ => none)
theorem zke : zay Tryz.prog (zm9 std) := by
 intro xs p r h hp
 dsimp only [zm9] at h |-
 split at h <;> cases h
 try simp only [L2, L3, std] at hp |-
 rename_i n
 obtain ⟨h0, h1⟩ : zax n := hp
 obtain ⟨k, rfl⟩ := zjq h0
 exact zb0 (fn := Tryz.f87) rfl rfl (by kernel_rfl) (zsm (zcm _ _)) (fun h D => znp h D _ _) (fun w => ybg k w (by omega))
def yfk (L : za9) : zbn := (89, fun xs => match xs with
 | [.lst 1 2 get] => match get 0 0 with
   | .str a => match get 1 0 with
     | .str b => some (L (fun g : Nat -> Nat -> AV => ∀ i j, i < 2 -> j < 1 -> g i j = .str (zby [] [a, b] i)) get /\ L2 L upto 1000000 a /\ L2 L upto 1000000 b, .int .u32 (L (fun l => (crcL l : Int)) (L2 L yvc a b)))
     | _ => none
   | _ => none
 | _ => none)
theorem yqn {P : Program} {f : FuncId} {sz n : Nat} {g g' : Nat -> Nat -> AV} {r : AV} (e : ∀ i j, i < n -> j < sz -> g i j = g' i j) (h : za7 P f [.lst sz n g'] r) : za7 P f [.lst sz n g] r := by
 intro D w vs hD ⟨h1, h2⟩
 refine h D w vs hD ⟨h1, fun i x v hx hv => ?_⟩
 match i with
 | 0 => cases hx; exact zjt (h2 0 _ v rfl hv) e
 | i + 1 => simp at hx
theorem yfl : zay Tryz.prog (yfk std) := by
 intro xs p r h hp
 dsimp only [yfk] at h |-
 split at h
 · rename_i get
   cases ea : get 0 0 with
   | str a =>
     cases eb : get 1 0 with
     | str b =>
       simp only [ea, eb] at h
       cases h
       obtain ⟨h1, h2, h3⟩ := hp
       have := yud 2 (fun i => zby [] [a, b] i) (by omega) (fun i hi => by
         match i, hi with
         | 0, _ => exact h2
         | 1, _ => exact h3)
       exact yqn (g' := fun i _ => .str (zby [] [a, b] i)) h1 this
     | _ => simp only [ea, eb] at h; cases h
   | _ => simp only [ea] at h; cases h
 · cases h
theorem ya1 : za7 Tryz.prog 131 [] (.bool true) := by
 refine za5 (T := tt) (S := fun L => zai [zm9 L, ycy L]) (lo := noA) (lb := noA) 5 (fn := Tryz.f131) rfl rfl (by kernel_rfl) (by kernel_rfl) rfl zaa (za1 ⟨zke, zpi, trivial⟩) (by kernel_rfl) ?_
 (intro L P1 Q1 hL hP hQ; cbv; subst hL; simp only [L2, L3, std, syT]; subst hQ)
 (simp only [syS, reduceCtorEq, Int.reduceToNat, Int.reduceAdd, Int.reduceSub])
 exact ⟨by unfold zax; omega, fun _ => ⟨by unfold yd1; omega, by decide +kernel⟩, by rw [zat, show (300 : Int).toNat = 300 from rfl, zeo (by decide), zbd (by decide)]; rfl⟩
def tru (f : Nat) : zbn := (f, fun xs => match xs with | [] => some (True, .bool true) | _ => none)
theorem zb9 {P : Program} {f : Nat} (h : za7 P f [] (.bool true)) : zay P (tru f) := by
 intro xs p r h' hp
 match xs with
 | [] => cases h'; exact h
 | x :: xs => cases h'
theorem zic : za7 Tryz.prog 124 [] (.bool true) := by
 refine za5 (T := tt) (S := fun L => zai [tru 131]) (lo := noA) (lb := noA) 5 (fn := Tryz.f124) rfl rfl (by kernel_rfl) (by kernel_rfl) rfl zaa (za1 ⟨zb9 ya1, trivial⟩) (by kernel_rfl) ?_
 (intro L P1 Q1 hL hP hQ; cbv; subst hL; simp only [L2, L3, std, syT]; subst hQ)
 (simp only [syS, reduceCtorEq, Int.reduceToNat, Int.reduceAdd, Int.reduceSub])
theorem ya0 : za7 Tryz.prog 134 [] (.bool true) := by
 refine za5 (T := tt) (S := fun L => zai [tru 124, yfk L]) (lo := noA) (lb := noA) 5 (fn := Tryz.f134) rfl rfl (by kernel_rfl) (by kernel_rfl) rfl zaa (za1 ⟨zb9 zic, yfl, trivial⟩) (by kernel_rfl) ?_
 (intro L P1 Q1 hL hP hQ; cbv; subst hL; simp only [L2, L3, std, syT]; subst hQ)
 (simp only [syS, reduceCtorEq, Int.reduceToNat, Int.reduceAdd, Int.reduceSub])
 refine ⟨⟨fun i j hi hj => ?_, by simp [upto, zu3], by simp [upto, zu3]⟩, by decide +kernel⟩
 match i, hi with
 | 0, _ => rfl
 | 1, _ => rfl
theorem yae : za7 Tryz.prog 126 [] (.bool true) := by
 refine za5 (T := tt) (S := fun L => zai [tru 134]) (lo := noA) (lb := noA) 5 (fn := Tryz.f126) rfl rfl (by kernel_rfl) (by kernel_rfl) rfl zaa (za1 ⟨zb9 ya0, trivial⟩) (by kernel_rfl) ?_
 (intro L P1 Q1 hL hP hQ; cbv; subst hL; simp only [L2, L3, std, syT]; subst hQ)
 (simp only [syS, reduceCtorEq, Int.reduceToNat, Int.reduceAdd, Int.reduceSub])
def zit (k e : Int) (b : List UInt8) : List UInt8 := [79, 70, 1] ++ [UInt8.ofNat k.toNat] ++ yai e 8 ++ yai b.length 4 ++ b
def byE (k : Int) (b : List UInt8) : Int := if k < 1 \/ 255 < k then 10 else if 8192 < b.length then 5 else 0
def byT (k e : Int) (b : List UInt8) : List UInt8 := if byE k b = 0 then zeh (zit k e b) else []
def yqd (e : Int) (b : List UInt8) : Prop := 0 <= e /\ e < 18446744073709551616 /\ b.length <= 9223372036854775807
def zvu (L : za9) : zbn := (90, fun xs => match xs with | [.int .i64 n] => some (L (fun n : Int => 0 <= n /\ n <= 1000000) n, .int .i64 (L (fun n : Int => n + 20) n)) | _ => none)
theorem zr3 : zay Tryz.prog (zvu std) := by
 intro xs p r h hp
 dsimp only [zvu] at h |-
 split at h <;> cases h
 try simp only [L2, L3, std] at hp |-
 exact yml _ hp.1 hp.2
def yvx (L : za9) : zbn := (35, fun xs => match xs with | [.agg [.int .i64 k, .int .u64 e, .str b]] => some (L2 L yqd e b, .tup [.str (L3 L byT k e b), .int .i64 (L2 L byE k b)]) | _ => none)
def yhs (L : za9) : zbn := (43, fun xs => match xs with | [.agg [.int .i64 k, .int .u64 e, .str b]] => some (L2 L yqd e b, .tup [.str (L3 L byT k e b), .int .i64 (L2 L byE k b)]) | _ => none)
theorem zjd (e n : Int) : (yai e n).length = cl8 n := zd2 _ _
theorem yg8 : zay Tryz.prog (yvx std) := by
 intro xs p r h hp
 dsimp only [yvx] at h |-
 split at h <;> cases h
 try simp only [L2, L3, std] at hp |-
 rename_i k e b
 show za7 _ _ _ (.tup [.str (byT k e b), .int .i64 (byE k b)])
 refine za5 (T := tt) (S := fun L => zai [ycy L, ye1 L]) (lo := noA) (lb := noA) 5 (fn := Tryz.f35) rfl rfl (by kernel_rfl) (by kernel_rfl) rfl zaa (za1 ⟨zpi, ye2, trivial⟩) (by kernel_rfl) ?_
 (intro L P1 Q1 hL hP hQ; cbv; subst hL; simp only [L2, L3, std, syT]; subst hQ)
 (simp only [syS, reduceCtorEq, Int.reduceToNat, Int.reduceAdd, Int.reduceSub])
 have e1 : (zc5 1 fun i => (AV.int .u8 (zd3 [k % 256] (0 + i))).toI) = [UInt8.ofNat (k % 256).toNat] := rfl
 obtain ⟨h0, h1, h2⟩ : yqd e b := hp
 simp only [e1]
 refine ⟨fun h => ?_, fun h => ⟨fun h' => ?_, fun h' => ⟨fun hb => ?_, fun hb => ?_⟩⟩⟩
 · have hE : byE k b = 10 := if_pos (by omega)
   rw [byT, hE]; exact ⟨rfl, rfl⟩
 · have hE : byE k b = 10 := if_pos (by omega)
   rw [byT, hE]; exact ⟨rfl, rfl⟩
 · have hE : byE k b = 5 := by rw [byE, if_neg (by omega), if_pos (by omega)]
   rw [byT, hE]; exact ⟨rfl, rfl⟩
 · have hE : byE k b = 0 := by rw [byE, if_neg (by omega), if_neg (by omega)]
   rw [byT, hE, if_pos rfl, zit, show k % 256 = k by omega, show (b.length : Int) % 18446744073709551616 = b.length by omega]
   refine ⟨⟨by omega, fun i _ => ⟨_, rfl⟩⟩, by simp, ⟨h0, h1, by omega, by omega⟩, ?_, ⟨by omega, by omega, by omega, by omega⟩, ?_, ?_, ?_, rfl, rfl⟩
   all_goals simp [upto, zjd, zd2, cl8]; try omega
theorem zvz : zay Tryz.prog (yhs std) := by
 intro xs p r h hp
 dsimp only [yhs] at h |-
 split at h <;> cases h
 try simp only [L2, L3, std] at hp |-
 rename_i k e b
 show za7 _ _ _ (.tup [.str (byT k e b), .int .i64 (byE k b)])
 refine za5 (T := tt) (S := fun L => zai [ycc L, zth L]) (lo := noA) (lb := noA) 5 (fn := Tryz.f43) rfl rfl (by kernel_rfl) (by kernel_rfl) rfl zaa (za1 ⟨ycd, zy9, trivial⟩) (by kernel_rfl) ?_
 (intro L P1 Q1 hL hP hQ; cbv; subst hL; simp only [L2, L3, std, syT]; subst hQ)
 (simp only [syS, reduceCtorEq, Int.reduceToNat, Int.reduceAdd, Int.reduceSub])
 have e1 : (zc5 1 fun i => (AV.int .u8 (zd3 [k % 256] (0 + i))).toI) = [UInt8.ofNat (k % 256).toNat] := rfl
 obtain ⟨h0, h1, h2⟩ : yqd e b := hp
 simp only [e1]
 refine ⟨fun h => ?_, fun h => ⟨fun h' => ?_, fun h' => ⟨fun hb => ?_, fun hb => ?_⟩⟩⟩
 · have hE : byE k b = 10 := if_pos (by omega)
   rw [byT, hE]; exact ⟨rfl, rfl⟩
 · have hE : byE k b = 10 := if_pos (by omega)
   rw [byT, hE]; exact ⟨rfl, rfl⟩
 · have hE : byE k b = 5 := by rw [byE, if_neg (by omega), if_pos (by omega)]
   rw [byT, hE]; exact ⟨rfl, rfl⟩
 · have hE : byE k b = 0 := by rw [byE, if_neg (by omega), if_neg (by omega)]
   rw [byT, hE, if_pos rfl, zit, show k % 256 = k by omega, show (b.length : Int) % 18446744073709551616 = b.length by omega]
   refine ⟨⟨by omega, fun i _ => ⟨_, rfl⟩⟩, by simp, ⟨h0, h1, by omega, by omega⟩, ?_, ⟨by omega, by omega, by omega, by omega⟩, ?_, ?_, ?_, rfl, rfl⟩
   all_goals simp [upto, zjd, zd2, cl8]; try omega
end Sy
end Go.Proofs.YtcgikjfloloekaaGreatDoor
namespace Go.Proofs.YtcgikjfloloekaaGreatDoor
namespace Sy
open Go Go.RowKit
theorem zmk : ∀ (c n : Nat), zie n (c + 1) = zie (n / 256) c ++ [UInt8.ofNat n]
 | 0, n => by simp [zie]
 | c + 1, n => by
   rw [zie, zmk c n]
   show _ = (UInt8.ofNat (n / 256 / 256 ^ c) :: zie (n / 256) c) ++ _
   rw [Nat.div_div_eq_div_mul, <- Nat.pow_succ']
   rfl
theorem zn1 : ∀ (c n : Nat), n < 256 ^ c -> zon (zie n c) = n
 | 0, n, h => by simp at h; subst h; rfl
 | c + 1, n, h => by
   rw [zmk, zk2, zn1 c (n / 256) (by rw [Nat.pow_succ] at h; omega), UInt8.toNat_ofNat']
   omega
theorem zre (l : List UInt8) : zie (zon l) l.length = l := by
 have key : ∀ m (l : List UInt8), l.length = m -> zie (zon l) m = l := by
   intro m
   induction m with
   | zero => intro l hl; rw [List.length_eq_zero_iff.1 hl]; rfl
   | succ m ih =>
     intro l hl
     have hne : l ≠ [] := by intro h; simp [h] at hl
     have e : l = l.dropLast ++ [l.getLast hne] := (List.dropLast_concat_getLast hne).symm
     have hd : l.dropLast.length = m := by simp [hl]
     generalize l.getLast hne = x at e
     generalize l.dropLast = y at e hd
     subst e
     have hx : x.toNat < 256 := x.toNat_lt
     rw [zmk, zk2, show (zon y * 256 + x.toNat) / 256 = zon y by omega, ih y hd]
     congr 2
     apply UInt8.toNat_inj.1
     rw [UInt8.toNat_ofNat']; omega
 exact key _ l rfl
theorem zj3 {α : Type} (a b : List α) (n : Nat) (h : a.length = n) : (a ++ b).take n = a := by subst h; simp
theorem zqk {α : Type} (a b : List α) (n : Nat) (h : a.length = n) : (a ++ b).drop n = b := by subst h; simp
def nxN (s : List UInt8) : Int := znu ((s.take 16).drop 12)
def nxE (s : List UInt8) : Int := if s.length < 20 then 3 else if s.take 3 ≠ [79, 70, 1] then 4 else if (s.getD 3 0).toNat = 0 then 10 else if 8192 < nxN s then 5 else if (s.length : Int) < nxN s + 20 then 3 else zt1 (s.take (nxN s + 20).toNat)
def nxK (s : List UInt8) : Int := if nxE s = 0 then (s.getD 3 0).toNat else 0
def nxP (s : List UInt8) : Int := if nxE s = 0 then znu ((s.take 12).drop 4) else 0
def nxB (s : List UInt8) : List UInt8 := if nxE s = 0 then (s.take (nxN s + 16).toNat).drop 16 else []
def nxR (s : List UInt8) : List UInt8 := if nxE s = 0 then s.drop (nxN s + 20).toNat else []
theorem zjk (s : List UInt8) : 0 <= nxN s /\ nxN s < 4294967296 := by
 have h := zuk ((s.take 16).drop 12)
 have h' : 256 ^ ((s.take 16).drop 12).length <= 256 ^ 4 := Nat.pow_le_pow_right (by omega) (by simp; omega)
 unfold nxN znu; omega
theorem zrl (s : List UInt8) : 0 <= znu ((s.take 12).drop 4) /\ znu ((s.take 12).drop 4) < 18446744073709551616 := by
 have h := zuk ((s.take 12).drop 4)
 have h' : 256 ^ ((s.take 12).drop 4).length <= 256 ^ 8 := Nat.pow_le_pow_right (by omega) (by simp; omega)
 unfold znu; omega
theorem ylc (s : List UInt8) (he : nxE s ≠ 0) : nxK s = 0 /\ nxP s = 0 /\ nxB s = [] /\ nxR s = [] := by simp [nxK, nxP, nxB, nxR, he]
theorem zl6 (k e : Int) (b : List UInt8) : (zit k e b).length = b.length + 16 := by
 simp [zit, zjd, cl8]; omega
theorem yp1 (s : List UInt8) (h20 : 20 <= s.length) (hp : s.take 3 = [79, 70, 1]) (hl : nxN s + 20 <= s.length) :
   zit (s.getD 3 0).toNat (znu ((s.take 12).drop 4)) ((s.take (nxN s + 16).toNat).drop 16) = s.take (nxN s + 16).toNat := by
 obtain ⟨h0, h1⟩ := zjk s
 obtain ⟨n, hn⟩ : ∃ n : Nat, nxN s = n := ⟨(nxN s).toNat, by omega⟩
 have hn' : zon ((s.take 16).drop 12) = n := by
   have := hn; unfold nxN znu at this; omega
 rw [hn] at hl |-
 rw [show ((n : Int) + 16).toNat = n + 16 by omega]
 have hb : ((s.take (n + 16)).drop 16).length = n := by simp; omega
 have h8 : ((s.take 12).drop 4).length = 8 := by simp; omega
 have h4 : ((s.take 16).drop 12).length = 4 := by simp; omega
 have e8 := zre ((s.take 12).drop 4)
 have e4 := zre ((s.take 16).drop 12)
 rw [h8] at e8
 rw [h4, hn'] at e4
 have e1 : (s.drop 3).take 1 = [s.getD 3 0] := by
   have h3 : 3 < s.length := by omega
   rw [List.drop_eq_getElem_cons h3]
   show [s[3]] = _
   simp [h3]
 have eh : zit (s.getD 3 0).toNat (znu ((s.take 12).drop 4)) ((s.take (n + 16)).drop 16) = [79, 70, 1] ++ ([s.getD 3 0] ++ ((s.take 12).drop 4 ++ ((s.take 16).drop 12 ++ (s.take (n + 16)).drop 16))) := by
   have z8 : yai (znu ((s.take 12).drop 4)) 8 = (s.take 12).drop 4 := e8
   have z4 : yai (n : Int) 4 = (s.take 16).drop 12 := e4
   rw [zit, hb, z8, z4]
   simp only [Int.toNat_natCast, UInt8.ofNat_toNat, List.append_assoc]
 have d1 : (s.take 12).drop 4 = (s.drop 4).take 8 := by rw [List.drop_take]
 have d2 : (s.take 16).drop 12 = (s.drop 12).take 4 := by rw [List.drop_take]
 have d3 : (s.take (n + 16)).drop 16 = (s.drop 16).take n := by rw [List.drop_take]; congr 1
 rw [eh, d1, d2, d3, show n + 16 = 3 + (1 + (8 + (4 + n))) by omega, List.take_add, List.take_add, List.take_add, List.take_add, List.drop_drop, List.drop_drop, List.drop_drop, hp]
 rw [e1]
structure yqt (t : List UInt8) (k e : Int) (b r : List UInt8) : Prop where
 E : nxE t = 0
 K : nxK t = k
 P : nxP t = e
 B : nxB t = b
 R : nxR t = r
 N : nxN t = b.length
 len : t.length = b.length + 20 + r.length
theorem ylu {k : Int} {b : List UInt8} (h : byE k b = 0) : 1 <= k /\ k <= 255 /\ b.length <= 8192 := by
 unfold byE at h
 split at h
 · omega
 · split at h <;> omega
theorem zwy (k e : Int) (b r : List UInt8) (hE : byE k b = 0) (h0 : 0 <= e) (h1 : e < 18446744073709551616) : yqt (byT k e b ++ r) k e b r := by
 obtain ⟨k1, k2, hb⟩ := ylu hE
 obtain ⟨p, hp⟩ : ∃ p, p = yai e 8 := ⟨_, rfl⟩
 obtain ⟨q, hq⟩ : ∃ q, q = yai b.length 4 := ⟨_, rfl⟩
 have hpl : p.length = 8 := by rw [hp, zjd]; rfl
 have hql : q.length = 4 := by rw [hq, zjd]; rfl
 have ep : znu p = e := by
   rw [hp]; unfold znu yai
   rw [show cl8 8 = 8 from rfl, zn1 8 _ (by omega)]; omega
 have eq' : znu q = b.length := by
   rw [hq]; unfold znu yai
   rw [show cl8 4 = 4 from rfl, Int.toNat_natCast, zn1 4 _ (by omega)]
 obtain ⟨z, hz⟩ : ∃ z, z = le4 (crcL (zit k e b)) := ⟨_, rfl⟩
 have hzl : z.length = 4 := by rw [hz]; rfl
 have hT : byT k e b = zit k e b ++ z := by rw [byT, if_pos hE, zeh, hz]
 have hh : zit k e b = 79 :: 70 :: 1 :: UInt8.ofNat k.toNat :: (p ++ (q ++ b)) := by rw [zit, hp, hq]; simp
 have hl16 := zl6 k e b
 have hs : byT k e b ++ r = 79 :: 70 :: 1 :: UInt8.ofNat k.toNat :: (p ++ (q ++ (b ++ (z ++ r)))) := by
   rw [hT, hh]; simp
 have hlen : (byT k e b ++ r).length = b.length + 20 + r.length := by rw [hT]; simp only [List.length_append, hl16, hzl]
 generalize ht : byT k e b ++ r = t at hs hlen
 have tN : nxN t = b.length := by
   rw [nxN, List.drop_take, hs]
   show znu ((List.drop 8 (p ++ (q ++ (b ++ (z ++ r))))).take 4) = _
   rw [zqk p _ 8 hpl, zj3 q _ 4 hql, eq']
 have t3 : t.take 3 = [79, 70, 1] := by rw [hs]; rfl
 have tk : ((t.getD 3 0).toNat : Int) = k := by
   rw [hs]
   show ((UInt8.ofNat k.toNat).toNat : Int) = k
   rw [UInt8.toNat_ofNat']; omega
 have t16 : t.take (b.length + 16) = zit k e b := by rw [<- ht, hT, List.append_assoc]; exact zj3 _ _ _ hl16
 have t20 : t.take (b.length + 20) = zit k e b ++ z := by rw [<- ht, hT]; exact zj3 _ _ _ (by simp only [List.length_append, hl16, hzl])
 have d20 : t.drop (b.length + 20) = r := by rw [<- ht, hT]; exact zqk _ _ _ (by simp only [List.length_append, hl16, hzl])
 have hc : zt1 (t.take (nxN t + 20).toNat) = 0 := by
   rw [tN, show ((b.length : Int) + 20).toNat = b.length + 20 by omega, t20, zt1, if_neg (by simp only [List.length_append, hl16, hzl]; omega), zj3 _ _ _ (by simp only [List.length_append, hl16, hzl]; omega), if_pos]
   rw [zeh, hz]
 have hE0 : nxE t = 0 := by
   have nc : nxE t = if t.length < 20 then 3 else if t.take 3 ≠ [79, 70, 1] then 4 else if (t.getD 3 0).toNat = 0 then 10 else if 8192 < nxN t then 5 else if (t.length : Int) < nxN t + 20 then 3 else zt1 (t.take (nxN t + 20).toNat) := rfl
   rw [nc, if_neg (by omega), if_neg (by rw [t3]; simp), if_neg (by omega), if_neg (by omega), if_neg (by omega), hc]
 refine ⟨hE0, by rw [nxK, if_pos hE0, tk], ?_, ?_, ?_, tN, hlen⟩
 · rw [nxP, if_pos hE0, List.drop_take, hs]
   show znu ((p ++ (q ++ (b ++ (z ++ r)))).take 8) = _
   rw [zj3 p _ 8 hpl, ep]
 · rw [nxB, if_pos hE0, tN, show ((b.length : Int) + 16).toNat = b.length + 16 by omega, t16, hh]
   show List.drop 12 (p ++ (q ++ b)) = b
   rw [show p ++ (q ++ b) = (p ++ q) ++ b by simp, zqk (p ++ q) _ 12 (by simp [hpl, hql])]
 · rw [nxR, if_pos hE0, tN, show ((b.length : Int) + 20).toNat = b.length + 20 by omega, d20]
theorem ysr (s : List UInt8) (h : nxE s = 0) : nxN s + 20 <= s.length /\ nxN s <= 8192 := by
 have nc : nxE s = if s.length < 20 then 3 else if s.take 3 ≠ [79, 70, 1] then 4 else if (s.getD 3 0).toNat = 0 then 10 else if 8192 < nxN s then 5 else if (s.length : Int) < nxN s + 20 then 3 else zt1 (s.take (nxN s + 20).toNat) := rfl
 rw [nc] at h
 repeat' split at h
 all_goals omega
end Sy
end Go.Proofs.YtcgikjfloloekaaGreatDoor
namespace Go.Proofs.YtcgikjfloloekaaGreatDoor
namespace Sy
open Go Go.RowKit
set_option maxRecDepth 100000
set_option linter.unusedSimpArgs false
set_option linter.unusedVariables false
def ysl (a b : List UInt8) : Bool := a.take b.length == b
def ysk (a b : List UInt8) : Prop := a.length <= 1000000000 /\ b.length <= 1000000000
def yd3 (L : za9) : zbn := (119, fun xs => match xs with | [.str a, .str b] => some (L2 L ysk a b, .bool (L2 L ysl a b)) | _ => none)
def ynd (L : za9) : zbn := (91, fun xs => match xs with | [.str a, .str b] => some (L2 L ysk a b, .bool (L2 L ysl a b)) | _ => none)
theorem yd4 : zay Tryz.prog (yd3 std) := by
 intro xs p r h hp
 dsimp only [yd3] at h |-
 split at h <;> cases h
 try simp only [L2, L3, std] at hp |-
 rename_i a b
 refine za5 (T := tt) (S := noS) (lo := noA) (lb := noA) 5 (fn := Tryz.f119) rfl rfl (by kernel_rfl) (by kernel_rfl) rfl zaa (zcc _) (by kernel_rfl) ?_
 (intro L P1 Q1 hL hP hQ; cbv; subst hL; simp only [L2, L3, std, syT]; subst hQ)
 (simp only [syS, reduceCtorEq, Int.reduceToNat, Int.reduceAdd, Int.reduceSub])
 exact ⟨fun h => ⟨by omega, rfl⟩, fun h => by
   have : ¬ a.take b.length = b := fun e => by have := congrArg List.length e; simp at this; omega
   simp [ysl, this]⟩
theorem yi0 : zay Tryz.prog (ynd std) := by
 intro xs p r h hp
 dsimp only [ynd] at h |-
 split at h <;> cases h
 try simp only [L2, L3, std] at hp |-
 rename_i a b
 refine za5 (T := tt) (S := fun L => zai [yd3 L]) (lo := noA) (lb := noA) 5 (fn := Tryz.f91) rfl rfl (by kernel_rfl) (by kernel_rfl) rfl zaa (za1 ⟨yd4, trivial⟩) (by kernel_rfl) ?_
 (intro L P1 Q1 hL hP hQ; cbv; subst hL; simp only [L2, L3, std, syT]; subst hQ)
 (simp only [syS, reduceCtorEq, Int.reduceToNat, Int.reduceAdd, Int.reduceSub])
 exact hp
def zup (L : za9) : zbn := (60, fun xs => match xs with | [.str s] => some (L2 L upto 900000 s, .tup [.agg [.int .i64 (L nxK s), .int .u64 (L nxP s), .str (L nxB s)], .str (L nxR s), .int .i64 (L nxE s)]) | _ => none)
theorem zzf : zay Tryz.prog (zup std) := by
 intro xs p r h hp
 dsimp only [zup] at h |-
 split at h <;> cases h
 try simp only [L2, L3, std] at hp |-
 rename_i s
 refine za5 (T := tt) (S := fun L => zai [zvu L, ynd L, yp5 L, zv3 L]) (lo := noA) (lb := noA) 5 (fn := Tryz.f60) rfl rfl (by kernel_rfl) (by kernel_rfl) rfl zaa (za1 ⟨zr3, yi0, yjl, zzo, trivial⟩) (by kernel_rfl) ?_
 obtain ⟨hN0, hN1⟩ := zjk s
 have bad : ∀ c : Int, c ≠ 0 -> nxE s = c -> (0 = nxK s /\ 0 = nxP s /\ [] = nxB s) /\ [] = nxR s /\ c = nxE s := by
   intro c hc he
   simp [nxK, nxP, nxB, nxR, he, hc]
 have hl : s.length <= 900000 := hp
 (intro L P1 Q1 hL hP hQ; cbv; subst hL; simp only [L2, L3, std, syT]; subst hQ)
 (simp only [syS, reduceCtorEq, Int.reduceToNat, Int.reduceAdd, Int.reduceSub])
 simp only [show znu (List.drop 12 (List.take 16 s)) = nxN s from rfl, show (nxN s + 9223372036854775808) % 18446744073709551616 - 9223372036854775808 = nxN s by omega, show (16 + nxN s) % 18446744073709551616 = nxN s + 16 by omega]
 have nc : nxE s = if s.length < 20 then 3 else if s.take 3 ≠ [79, 70, 1] then 4 else if (s.getD 3 0).toNat = 0 then 10 else if 8192 < nxN s then 5 else if (s.length : Int) < nxN s + 20 then 3 else zt1 (s.take (nxN s + 20).toNat) := rfl
 refine ⟨by omega, fun h1 => bad 3 (by decide) (by rw [nc, if_pos (by omega)]), fun h1 => ⟨⟨by omega, by simp⟩, fun h2 => ?_, fun h2 => ?_⟩⟩
 · have h2 : s.take 3 ≠ [79, 70, 1] := by simpa [ysl] using h2
   exact bad 4 (by decide) (by rw [nc, if_neg (by omega), if_pos h2])
 · have h2 : ¬ s.take 3 ≠ [79, 70, 1] := by simpa [ysl] using h2
   refine ⟨by omega, fun h3 => bad 10 (by decide) (by rw [nc, if_neg (by omega), if_neg h2, if_pos (by omega)]), fun h3 => ⟨by omega, ⟨by simp only [List.length_drop, List.length_take]; omega, by simp only [List.length_drop, List.length_take]; omega⟩, fun h4 => bad 5 (by decide) (by rw [nc, if_neg (by omega), if_neg h2, if_neg (by omega), if_pos h4]), fun h4 => ⟨by omega,
     fun h5 => bad 3 (by decide) (by rw [nc, if_neg (by omega), if_neg h2, if_neg (by omega), if_neg (by omega), if_pos h5]), fun h5 => ?_⟩⟩⟩
   have ne : nxE s = zt1 (s.take (nxN s + 20).toNat) := by rw [nc, if_neg (by omega), if_neg h2, if_neg (by omega), if_neg (by omega), if_neg (by omega)]
   refine ⟨by omega, by omega, by simp [upto]; omega, fun h6 => bad _ h6 ne, fun h6 => ?_⟩
   rw [h6] at ne
   have h8 := (s.getD 3 0).toNat_lt
   refine ⟨by omega, by omega, ⟨by simp only [List.length_drop, List.length_take]; omega, by simp only [List.length_drop, List.length_take]; omega⟩, by omega, by omega, by omega, ?_⟩
   simp only [nxK, nxP, nxB, nxR, ne, if_pos]
   exact ⟨⟨by omega, trivial, trivial⟩, trivial, trivial⟩
def paE (s : List UInt8) : Int := if nxE s = 0 /\ nxR s ≠ [] then 4 else nxE s
def paK (s : List UInt8) : Int := if paE s = 0 then nxK s else 0
def paP (s : List UInt8) : Int := if paE s = 0 then nxP s else 0
def paB (s : List UInt8) : List UInt8 := if paE s = 0 then nxB s else []
def ztu (L : za9) : zbn := (36, fun xs => match xs with | [.str s] => some (L2 L upto 900000 s, .tup [.agg [.int .i64 (L paK s), .int .u64 (L paP s), .str (L paB s)], .int .i64 (L paE s)]) | _ => none)
theorem zyn : zay Tryz.prog (ztu std) := by
 intro xs p r h hp
 dsimp only [ztu] at h |-
 split at h <;> cases h
 try simp only [L2, L3, std] at hp |-
 rename_i s
 refine za5 (T := tt) (S := fun L => zai [zup L]) (lo := noA) (lb := noA) 5 (fn := Tryz.f36) rfl rfl (by kernel_rfl) (by kernel_rfl) rfl zaa (za1 ⟨zzf, trivial⟩) (by kernel_rfl) ?_
 (intro L P1 Q1 hL hP hQ; cbv; subst hL; simp only [L2, L3, std, syT]; subst hQ)
 (simp only [syS, reduceCtorEq, Int.reduceToNat, Int.reduceAdd, Int.reduceSub])
 refine ⟨hp, fun h1 => ⟨fun h2 => ?_, fun h2 => ?_⟩, fun h1 => ?_⟩
 · have : paE s = 4 := if_pos ⟨h1, h2⟩
   simp [paK, paP, paB, this]
 · have : paE s = nxE s := if_neg (fun h => h.2 h2)
   simp [paK, paP, paB, this, h1]
 · have : paE s = nxE s := if_neg (fun h => h1 h.1)
   obtain ⟨e1, e2, e3, e4⟩ := ylc s h1
   simp [paK, paP, paB, this, h1, e1, e2, e3]
def rnL (s : List UInt8) : Int := if nxE s = 0 then nxN s + 20 else 0
def ztg (L : za9) : zbn := (76, fun xs => match xs with | [.str s] => some (L2 L upto 900000 s, .tup [.agg [.int .i64 (L nxK s), .int .u64 (L nxP s), .str (L nxB s)], .int .i64 (L rnL s), .int .i64 (L nxE s)]) | _ => none)
theorem yrs (s : List UInt8) (h : 3 <= s.length) : ∃ c0 c1 c2 r, s = c0 :: c1 :: c2 :: r := by
 match s, h with
 | c0 :: c1 :: c2 :: r, _ => exact ⟨c0, c1, c2, r, rfl⟩
theorem zy8 : zay Tryz.prog (ztg std) := by
 intro xs p r h hp
 dsimp only [ztg] at h |-
 split at h <;> cases h
 try simp only [L2, L3, std] at hp |-
 rename_i s
 refine za5 (T := tt) (S := fun L => zai [ycl L, yhs L]) (lo := noA) (lb := noA) 5 (fn := Tryz.f76) rfl rfl (by kernel_rfl) (by kernel_rfl) rfl zaa (za1 ⟨ycm, zvz, trivial⟩) (by kernel_rfl) ?_
 obtain ⟨hN0, hN1⟩ := zjk s
 have hl : s.length <= 900000 := hp
 have hPb := zrl s
 have bad : ∀ c : Int, c ≠ 0 -> nxE s = c -> (0 = nxK s /\ 0 = nxP s /\ [] = nxB s) /\ 0 = rnL s /\ c = nxE s := by
   intro c hc he
   obtain ⟨e1, e2, e3, e4⟩ := ylc s (by rw [he]; exact hc)
   have e5 : rnL s = 0 := if_neg (by rw [he]; exact hc)
   exact ⟨⟨e1.symm, e2.symm, e3.symm⟩, e5.symm, he.symm⟩
 have h8 := (s.getD 3 0).toNat_lt
 (intro L P1 Q1 hL hP hQ; cbv; subst hL; simp only [L2, L3, std, syT]; subst hQ)
 (simp only [syS, reduceCtorEq, Int.reduceToNat, Int.reduceAdd, Int.reduceSub])
 simp only [show znu (List.drop 12 (List.take 16 s)) = nxN s from rfl, show (nxN s + 9223372036854775808) % 18446744073709551616 - 9223372036854775808 = nxN s by omega, show (20 + nxN s + 9223372036854775808) % 18446744073709551616 - 9223372036854775808 = nxN s + 20 by omega, show (16 + nxN s + 9223372036854775808) % 18446744073709551616 - 9223372036854775808 = nxN s + 16 by omega, show (((s.getD 3 0).toNat : Int) + 9223372036854775808) % 18446744073709551616 - 9223372036854775808 = (s.getD 3 0).toNat by omega]
 have nc : nxE s = if s.length < 20 then 3 else if s.take 3 ≠ [79, 70, 1] then 4 else if (s.getD 3 0).toNat = 0 then 10 else if 8192 < nxN s then 5 else if (s.length : Int) < nxN s + 20 then 3 else zt1 (s.take (nxN s + 20).toNat) := rfl
 refine ⟨fun h1 => bad 3 (by decide) (by rw [nc, if_pos (by omega)]), fun h1 => ?_⟩
 obtain ⟨c0, c1, c2, r, hs⟩ := yrs s (by omega)
 have t3 : s.take 3 = [c0, c1, c2] := by rw [hs]; rfl
 have g0 : s.getD 0 0 = c0 := by rw [hs]; rfl
 have g1 : s.getD 1 0 = c1 := by rw [hs]; rfl
 have g2 : s.getD 2 0 = c2 := by rw [hs]; rfl
 have ne4 : (c0.toNat ≠ 79 \/ c1.toNat ≠ 70 \/ c2.toNat ≠ 1) -> nxE s = 4 := by
   intro h
   rw [nc, if_neg (by omega), if_pos]
   rw [t3]
   intro e
   simp only [List.cons.injEq, and_true] at e
   obtain ⟨rfl, rfl, rfl⟩ := e
   simp at h
 rw [g0, g1, g2]
 refine ⟨by omega, fun h2 => bad 4 (by decide) (ne4 (by omega)), fun h2 => ⟨by omega, fun h3 => bad 4 (by decide) (ne4 (by omega)), fun h3 => ⟨by omega, fun h4 => bad 4 (by decide) (ne4 (by omega)), fun h4 => ?_⟩⟩⟩
 have hm : s.take 3 = [79, 70, 1] := by
   rw [t3, show c0 = 79 from UInt8.toNat_inj.1 (by simpa using (by omega : c0.toNat = 79)), show c1 = 70 from UInt8.toNat_inj.1 (by simpa using (by omega : c1.toNat = 70)), show c2 = 1 from UInt8.toNat_inj.1 (by simpa using (by omega : c2.toNat = 1))]
 clear ne4 g0 g1 g2 t3 h2 h3 h4 hs
 have hm' : ¬ s.take 3 ≠ [79, 70, 1] := by simpa using hm
 refine ⟨by omega, fun h3 => bad 10 (by decide) (by rw [nc, if_neg (by omega), if_neg hm', if_pos (by omega)]), fun h3 => ⟨by omega, ⟨by simp only [List.length_drop, List.length_take]; omega, by simp only [List.length_drop, List.length_take]; omega⟩, fun h4 => bad 5 (by decide) (by rw [nc, if_neg (by omega), if_neg hm', if_neg (by omega), if_pos h4]), fun h4 => ⟨
   fun h5 => bad 3 (by decide) (by rw [nc, if_neg (by omega), if_neg hm', if_neg (by omega), if_neg (by omega), if_pos h5]), fun h5 => ?_⟩⟩⟩
 have ne : nxE s = zt1 (s.take (nxN s + 20).toNat) := by
   rw [nc, if_neg (by omega), if_neg hm', if_neg (by omega), if_neg (by omega), if_neg (by omega)]
 have hb : (List.drop 16 (List.take (nxN s + 16).toNat s)).length = (nxN s).toNat := by simp only [List.length_drop, List.length_take]; omega
 have et : byT (s.getD 3 0).toNat (znu (List.drop 4 (List.take 12 s))) (List.drop 16 (List.take (nxN s + 16).toNat s)) = zeh (s.take (nxN s + 16).toNat) := by
   have : byE (s.getD 3 0).toNat (List.drop 16 (List.take (nxN s + 16).toNat s)) = 0 := by rw [byE, if_neg (by omega), if_neg (by omega)]
   rw [byT, if_pos this, yp1 s (by omega) hm h5]
 have ec : zt1 (s.take (nxN s + 20).toNat) = if zeh (s.take (nxN s + 16).toNat) = s.take (nxN s + 20).toNat then 0 else 9 := by
   have hlen : (s.take (nxN s + 20).toNat).length = (nxN s + 20).toNat := by simp only [List.length_take]; omega
   rw [zt1, if_neg (by omega), hlen, List.take_take, show min ((nxN s + 20).toNat - 4) (nxN s + 20).toNat = (nxN s + 16).toNat by omega]
 rw [et]
 refine ⟨by omega, by omega, ⟨by simp only [List.length_drop, List.length_take]; omega, by simp only [List.length_drop, List.length_take]; omega⟩, by omega, ⟨hPb.1, hPb.2, by omega⟩, by omega, fun h6 => bad 9 (by decide) ?_, fun h6 => ?_⟩
 · rw [ne, ec, if_neg (fun e => h6 e.symm)]
 · rw [ec, if_pos h6.symm] at ne
   simp only [nxK, nxP, nxB, rnL, ne, if_pos]
   exact ⟨⟨trivial, trivial, trivial⟩, trivial, trivial⟩
theorem zzx : za7 Tryz.prog 114 [] (.bool true) := by
 refine za5 (T := tt) (S := fun L => zai [yvx L, tru 126, zvu L]) (lo := noA) (lb := noA) 5 (fn := Tryz.f114) rfl rfl (by kernel_rfl) (by kernel_rfl) rfl zaa (za1 ⟨yg8, zb9 yae, zr3, trivial⟩) (by kernel_rfl) ?_
 (intro L P1 Q1 hL hP hQ; cbv; subst hL; simp only [L2, L3, std, syT]; subst hQ)
 (simp only [syS, reduceCtorEq, Int.reduceToNat, Int.reduceAdd, Int.reduceSub])
 have e : byE 1 [] = 0 := rfl
 have t : byT 1 0 [] = zeh (zit 1 0 []) := rfl
 rw [t, zl5, zl6]
 simp [yqd, e]
def bln (n : Nat) : Nat := if n = 0 then 0 else n.log2 + 1
theorem yqg {n k : Nat} (h : 2 ^ k <= n) : bln n = bln (n / 2 ^ k) + k := by
 have h0 : n ≠ 0 := by have := Nat.two_pow_pos k; omega
 have h1 : n / 2 ^ k ≠ 0 := by
   have := Nat.div_pos h (Nat.two_pow_pos k)
   omega
 unfold bln
 rw [if_neg h0, if_neg h1]
 have h2 : k <= n.log2 := (Nat.le_log2 h0).2 h
 have h3 := (Nat.le_log2 (k := n.log2) h0).1 (Nat.le_refl _)
 have h4 := (Nat.log2_lt (k := n.log2 + 1) h0).1 (Nat.lt_succ_self _)
 have e1 : (n / 2 ^ k).log2 = n.log2 - k := by
   apply Nat.le_antisymm
   · apply Nat.le_of_lt_succ
     rw [Nat.log2_lt h1, Nat.div_lt_iff_lt_mul (Nat.two_pow_pos k), <- Nat.pow_add]
     rw [show n.log2 - k + 1 + k = n.log2 + 1 by omega]
     exact h4
   · rw [Nat.le_log2 h1, Nat.le_div_iff_mul_le (Nat.two_pow_pos k), <- Nat.pow_add]
     rw [show n.log2 - k + k = n.log2 by omega]
     exact h3
 omega
def blT : List UInt8 := [0, 1, 2, 2, 3, 3, 3, 3, 4, 4, 4, 4, 4, 4, 4, 4, 5, 5, 5, 5, 5, 5, 5, 5, 5, 5, 5, 5, 5, 5, 5, 5, 6, 6, 6, 6, 6, 6, 6, 6, 6, 6, 6, 6, 6, 6, 6, 6, 6, 6, 6, 6, 6, 6, 6, 6, 6, 6, 6, 6, 6, 6, 6, 6, 7, 7, 7, 7, 7, 7, 7, 7, 7, 7, 7, 7, 7, 7, 7, 7, 7, 7, 7, 7, 7, 7, 7, 7, 7, 7, 7, 7, 7, 7, 7, 7, 7, 7, 7, 7, 7, 7, 7, 7, 7, 7, 7, 7, 7, 7, 7, 7, 7, 7, 7, 7, 7, 7, 7, 7, 7, 7, 7, 7, 7, 7, 7, 7, 8, 8, 8, 8, 8, 8, 8, 8, 8, 8, 8, 8, 8, 8, 8, 8, 8, 8, 8, 8, 8, 8, 8, 8, 8, 8, 8, 8, 8, 8, 8, 8, 8, 8, 8, 8, 8, 8, 8, 8, 8, 8, 8, 8, 8, 8, 8, 8, 8, 8, 8, 8, 8, 8, 8, 8, 8, 8, 8, 8, 8, 8, 8, 8, 8, 8, 8, 8, 8, 8, 8, 8, 8, 8, 8, 8, 8, 8, 8, 8, 8, 8, 8, 8, 8, 8, 8, 8, 8, 8, 8, 8, 8, 8, 8, 8, 8, 8, 8, 8, 8, 8, 8, 8, 8, 8, 8, 8, 8, 8, 8, 8, 8, 8, 8, 8, 8, 8, 8, 8, 8, 8, 8, 8, 8, 8, 8, 8]
theorem yup : ([0, 1, 2, 2, 3, 3, 3, 3, 4, 4, 4, 4, 4, 4, 4, 4, 5, 5, 5, 5, 5, 5, 5, 5, 5, 5, 5, 5, 5, 5, 5, 5, 6, 6, 6, 6, 6, 6, 6, 6, 6, 6, 6, 6, 6, 6, 6, 6, 6, 6, 6, 6, 6, 6, 6, 6, 6, 6, 6, 6, 6, 6, 6, 6, 7, 7, 7, 7, 7, 7, 7, 7, 7, 7, 7, 7, 7, 7, 7, 7, 7, 7, 7, 7, 7, 7, 7, 7, 7, 7, 7, 7, 7, 7, 7, 7, 7, 7, 7, 7, 7, 7, 7, 7, 7, 7, 7, 7, 7, 7, 7, 7, 7, 7, 7, 7, 7, 7, 7, 7, 7, 7, 7, 7, 7, 7, 7, 7, 8, 8, 8, 8, 8, 8, 8, 8, 8, 8, 8, 8, 8, 8, 8, 8, 8, 8, 8, 8, 8, 8, 8, 8, 8, 8, 8, 8, 8, 8, 8, 8, 8, 8, 8, 8, 8, 8, 8, 8, 8, 8, 8, 8, 8, 8, 8, 8, 8, 8, 8, 8, 8, 8, 8, 8, 8, 8, 8, 8, 8, 8, 8, 8, 8, 8, 8, 8, 8, 8, 8, 8, 8, 8, 8, 8, 8, 8, 8, 8, 8, 8, 8, 8, 8, 8, 8, 8, 8, 8, 8, 8, 8, 8, 8, 8, 8, 8, 8, 8, 8, 8, 8, 8, 8, 8, 8, 8, 8, 8, 8, 8, 8, 8, 8, 8, 8, 8, 8, 8, 8, 8, 8, 8, 8, 8, 8, 8] : List UInt8) = blT := rfl
theorem yqj : blT.length = 256 := by decide +kernel
theorem bl_8 : ∀ k : _root_.Fin 256, bln k.val <= 8 := by decide +kernel
theorem yuq : ∀ k : _root_.Fin 256, (blT.getD k.val 0).toNat = bln k.val := by decide +kernel
theorem yuo (x : Int) (h0 : 0 <= x) (h1 : x < 256) : ((blT.getD x.toNat 0).toNat : Int) = ((bln x.toNat : Nat) : Int) := by
 have := yuq ⟨x.toNat, by omega⟩
 simp only at this
 rw [this]
theorem ywf (n : Int) : yko .u64 n 32 = n / 4294967296 := by
 unfold yko
 rw [show (2 : Int) ^ (min (32 : Int).toNat IntKind.u64.bits) = 4294967296 from rfl, Int.fdiv_eq_ediv_of_nonneg _ (by decide)]
theorem ywg (n : Int) : yko .u64 n 16 = n / 65536 := by
 unfold yko
 rw [show (2 : Int) ^ (min (16 : Int).toNat IntKind.u64.bits) = 65536 from rfl, Int.fdiv_eq_ediv_of_nonneg _ (by decide)]
theorem shr8 (n : Int) : yko .u64 n 8 = n / 256 := by
 unfold yko
 rw [show (2 : Int) ^ (min (8 : Int).toNat IntKind.u64.bits) = 256 from rfl, Int.fdiv_eq_ediv_of_nonneg _ (by decide)]
theorem yqh (x : Int) (k : Nat) (P : Int) (hP : P = ((2 ^ k : Nat) : Int)) (h : P <= x) : ((bln x.toNat : Nat) : Int) = ((bln (x / P).toNat : Nat) : Int) + k := by
 have hp := Nat.two_pow_pos k
 have h1 : 2 ^ k <= x.toNat := by omega
 have := yqg h1
 have e : (x / P).toNat = x.toNat / 2 ^ k := by
   rw [hP]
   have : x = (x.toNat : Int) := by omega
   rw [this, <- Int.natCast_ediv, Int.toNat_natCast, Int.toNat_natCast]
 rw [e]
 omega
def zas (n : Int) : Prop := 0 <= n /\ n < 18446744073709551616
def blZ (n : Int) : Int := (bln n.toNat : Nat)
def yof (L : za9) : zbn := (111, fun xs => match xs with | [.int .u64 n] => some (L zas n, .int .i64 (L blZ n)) | _ => none)
theorem zl9 (c : Int) (x n : Int) (h0 : 0 <= x) (h1 : x < 256) (hc : 0 <= c) (hc' : c <= 56) (h : blZ n = blZ x + c) :
   ((c + (((blT.getD (x % 256).toNat 0).toNat : Int))) = blZ n) /\ 0 <= (((blT.getD (x % 256).toNat 0).toNat : Int)) /\ (((blT.getD (x % 256).toNat 0).toNat : Int)) <= 8 := by
 have e : x % 256 = x := by omega
 rw [e, yuo x h0 h1, h]
 have := bl_8 ⟨x.toNat, by omega⟩
 simp only at this
 unfold blZ
 refine ⟨by omega, by omega, by omega⟩
theorem zcz (x : Int) (k : Nat) (P : Int) (hP : P = ((2 ^ k : Nat) : Int)) (h : P <= x) : blZ x = blZ (x / P) + k := yqh x k P hP h
theorem yj6 : zay Tryz.prog (yof std) := by
 intro xs p r h hp
 dsimp only [yof] at h |-
 split at h <;> cases h
 try simp only [L2, L3, std] at hp |-
 rename_i n
 refine za5 (T := tt) (S := noS) (lo := noA) (lb := noA) 5 (fn := Tryz.f111) rfl rfl (by kernel_rfl) (by kernel_rfl) rfl zaa (zcc _) (by kernel_rfl) ?_
 intro L P' Q' hL hP hQ
 (cbv; try simp only [syT, true_and, and_true])
 refine ⟨fun h1 => ⟨?_, fun h2 => ⟨?_, fun h3 => ⟨?_, ?_, ?_⟩, fun h3 => ⟨?_, ?_⟩⟩, fun h2 => ⟨fun h3 => ⟨?_, ?_, ?_⟩, fun h3 => ⟨?_, ?_⟩⟩⟩, fun h1 => ⟨fun h2 => ⟨?_, fun h3 => ⟨?_, ?_, ?_⟩, fun h3 => ⟨?_, ?_⟩⟩, fun h2 => ⟨fun h3 => ⟨?_, ?_, ?_⟩, fun h3 => ⟨?_, ?_⟩⟩⟩⟩
 all_goals (subst hL; subst hQ; simp only [L2, L3, std] at *; try simp only [syS, reduceCtorEq, Int.reduceToNat, Int.reduceAdd, Int.reduceSub] at *)
 all_goals try (simp only [ywf, ywg, shr8, yup, yqj] at *)
 all_goals obtain ⟨u0, u1⟩ := hp
 all_goals try omega
 · have b := zl9 56 (n / 4294967296 / 65536 / 256) n (by omega) (by omega) (by omega) (by omega) (by rw [zcz n 32 4294967296 rfl h1, zcz _ 16 65536 rfl h2, zcz _ 8 256 rfl h3]; omega)
   omega
 · have b := zl9 48 (n / 4294967296 / 65536) n (by omega) (by omega) (by omega) (by omega) (by rw [zcz n 32 4294967296 rfl h1, zcz _ 16 65536 rfl h2]; omega)
   omega
 · have b := zl9 40 (n / 4294967296 / 256) n (by omega) (by omega) (by omega) (by omega) (by rw [zcz n 32 4294967296 rfl h1, zcz _ 8 256 rfl h3]; omega)
   omega
 · have b := zl9 32 (n / 4294967296) n (by omega) (by omega) (by omega) (by omega) (by rw [zcz n 32 4294967296 rfl h1]; omega)
   omega
 · have b := zl9 24 (n / 65536 / 256) n (by omega) (by omega) (by omega) (by omega) (by rw [zcz n 16 65536 rfl h2, zcz _ 8 256 rfl h3]; omega)
   omega
 · have b := zl9 16 (n / 65536) n (by omega) (by omega) (by omega) (by omega) (by rw [zcz n 16 65536 rfl h2]; omega)
   omega
 · have b := zl9 8 (n / 256) n (by omega) (by omega) (by omega) (by omega) (by rw [zcz n 8 256 rfl h3]; omega)
   omega
 · have b := zl9 0 n n (by omega) (by omega) (by omega) (by omega) (by omega)
   omega
def ldZ (n : Int) : Int := 64 - blZ n
theorem yun {n : Int} (h : zas n) : 0 <= blZ n /\ blZ n <= 64 := by
 obtain ⟨h0, h1⟩ := h
 unfold blZ bln
 split
 · omega
 · rename_i hn
   have p64 : (2 : Nat) ^ 64 = 18446744073709551616 := by decide
   have := (Nat.log2_lt (k := 64) hn).2 (by rw [p64]; omega)
   omega
def ye6 (L : za9) : zbn := (78, fun xs => match xs with | [.int .u64 n] => some (L zas n, .int .i64 (L ldZ n)) | _ => none)
theorem ye7 : zay Tryz.prog (ye6 std) := by
 intro xs p r h hp
 dsimp only [ye6] at h |-
 split at h <;> cases h
 try simp only [L2, L3, std] at hp |-
 rename_i n
 refine za5 (T := tt) (S := fun L => zai [yof L]) (lo := noA) (lb := noA) 5 (fn := Tryz.f78) rfl rfl (by kernel_rfl) (by kernel_rfl) rfl zaa (za1 ⟨yj6, trivial⟩) (by kernel_rfl) ?_
 have := yun hp
 (intro L P1 Q1 hL hP hQ; cbv; subst hL; simp only [L2, L3, std, syT]; subst hQ)
 (simp only [syS, reduceCtorEq, Int.reduceToNat, Int.reduceAdd, Int.reduceSub])
 unfold ldZ
 exact ⟨hp, by omega⟩
def yu6 (b c t : Int) : Int := if b = 0 \/ c = 0 then 0 else if ldZ b + 1 <= max t 0 then c else min (ykp .u64 b (max t 0)) c
def ypn (L : za9) : zbn := (48, fun xs => match xs with | [.agg [.int .u64 b, .int .u64 c, .int .i64 t]] => some (L zas b, .int .u64 (L3 L yu6 b c t)) | _ => none)
theorem yjy : zay Tryz.prog (ypn std) := by
 intro xs p r h hp
 dsimp only [ypn] at h |-
 split at h <;> cases h
 try simp only [L2, L3, std] at hp |-
 rename_i b c t
 refine za5 (T := tt) (S := fun L => zai [ye6 L]) (lo := noA) (lb := noA) 5 (fn := Tryz.f48) rfl rfl (by kernel_rfl) (by kernel_rfl) rfl zaa (za1 ⟨ye7, trivial⟩) (by kernel_rfl) ?_
 have := yun hp
 have : 0 <= ldZ b /\ ldZ b <= 64 := by unfold ldZ; omega
 (intro L P1 Q1 hL hP hQ; cbv; subst hL; simp only [L2, L3, std, syT]; subst hQ)
 (simp only [syS, reduceCtorEq, Int.reduceToNat, Int.reduceAdd, Int.reduceSub])
 refine ⟨fun h => by simp [yu6, h], fun h1 => ⟨fun h => by simp [yu6, h], fun h2 => ⟨hp, fun h3 => ?_, fun h3 => ⟨by omega, ?_⟩⟩⟩⟩
 · rw [yu6, if_neg (by omega), if_pos (by omega)]
 · rw [yu6, if_neg (by omega), if_neg (by omega)]
def nxtT (t : Int) : Int := min (max t 0 + 1) 64
def zt3 (L : za9) : zbn := (49, fun xs => match xs with | [.agg [.int .u64 b, .int .u64 c, .int .i64 t]] => some (L (fun t : Int => t <= 1000000) t, .agg [.int .u64 b, .int .u64 c, .int .i64 (L nxtT t)]) | _ => none)
theorem zxi : zay Tryz.prog (zt3 std) := by
 intro xs p r h hp
 dsimp only [zt3] at h |-
 split at h <;> cases h
 try simp only [L2, L3, std] at hp |-
 rename_i b c t
 refine za5 (T := tt) (S := noS) (lo := noA) (lb := noA) 5 (fn := Tryz.f49) rfl rfl (by kernel_rfl) (by kernel_rfl) rfl zaa (zcc _) (by kernel_rfl) ?_
 (intro L P1 Q1 hL hP hQ; cbv; subst hL; simp only [L2, L3, std, syT]; subst hQ)
 (simp only [syS, reduceCtorEq, Int.reduceToNat, Int.reduceAdd, Int.reduceSub])
 have hp : t <= 1000000 := hp
 unfold nxtT
 omega
theorem zzv : za7 Tryz.prog 115 [] (.bool true) := by
 refine za5 (T := tt) (S := fun L => zai [ypn L, zt3 L, tru 124]) (lo := noA) (lb := noA) 5 (fn := Tryz.f115) rfl rfl (by kernel_rfl) (by kernel_rfl) rfl zaa (za1 ⟨yjy, zxi, zb9 zic, trivial⟩) (by kernel_rfl) ?_
 (intro L P1 Q1 hL hP hQ; cbv; subst hL; simp only [L2, L3, std, syT]; subst hQ)
 (simp only [syS, reduceCtorEq, Int.reduceToNat, Int.reduceAdd, Int.reduceSub])
 simp only [zas]
 decide +kernel
theorem yaa : za7 Tryz.prog 82 [] (.bool true) := by
 refine za5 (T := tt) (S := fun L => zai [tru 115]) (lo := noA) (lb := noA) 5 (fn := Tryz.f82) rfl rfl (by kernel_rfl) (by kernel_rfl) rfl zaa (za1 ⟨zb9 zzv, trivial⟩) (by kernel_rfl) ?_
 (intro L P1 Q1 hL hP hQ; cbv; subst hL; simp only [L2, L3, std, syT]; subst hQ)
 (simp only [syS, reduceCtorEq, Int.reduceToNat, Int.reduceAdd, Int.reduceSub])
theorem yac : za7 Tryz.prog 81 [] (.bool true) := by
 refine za5 (T := tt) (S := fun L => zai [tru 114]) (lo := noA) (lb := noA) 5 (fn := Tryz.f81) rfl rfl (by kernel_rfl) (by kernel_rfl) rfl zaa (za1 ⟨zb9 zzx, trivial⟩) (by kernel_rfl) ?_
 (intro L P1 Q1 hL hP hQ; cbv; subst hL; simp only [L2, L3, std, syT]; subst hQ)
 (simp only [syS, reduceCtorEq, Int.reduceToNat, Int.reduceAdd, Int.reduceSub])
def zmp : yaq := (127, fun raw ob => match raw with
 | [.ref id 0] => match ob id with
   | some (.box ty cs) => some ⟨[.ref 500000 0], [(500000, .box ty cs)], True, .ref 500000 0, [(500000, .box ty cs)]⟩
   | _ => none
 | _ => none)
theorem zog : zo2 Tryz.prog zmp := by
 intro raw ob T hT hp
 unfold zmp at hT
 simp only at hT
 split at hT
 · split at hT
   · cases hT
     intro D w μ vs hD hxs hdom hobs hinj hown hg hgb
     obtain ⟨v, hv⟩ : ∃ v, vs.toList = [v] := List.length_eq_one_iff.1 (by simpa using hxs.1.symm)
     have : vs = #[v] := by rw [<- Array.toArray_toList (xs := vs), hv]
     subst this
     unfold zfp
     rw [show zmp.fst = 127 from rfl, run_callFunc_extern (fn := Tryz.f127) rfl (by kernel_rfl) (by kernel_rfl) (by kernel_rfl) (e := Extern.AbiNoEscape.same) (by kernel_rfl)]
     rw [Lib.run_noEscape]
     exact ⟨v, D, μ, { ret := rfl, os := rfl, tape := rfl, output := rfl, size := Nat.le_refl _, old := fun _ _ _ => rfl, up := fun _ h => h, dn := fun _ h => .inl h, dom := hdom, obs := hobs, inj := hinj, own := fun n b z h => ⟨(hown n b z h).1, (hown n b z h).2, .inr ⟨n, z, h⟩⟩, keep := fun _ _ _ => rfl, val := hxs.2 0 _ _ rfl rfl }⟩
   · cases hT
 · cases hT
def yq0 : yaq := (117, fun raw ob => match raw with
 | [.ref id 0] => match ob id with
   | some (.box _ [.nilp, .nils]) => some ⟨[.ref 500000 0], [(500000, .box 141 [.nilp, .nils])], True, .tup [], [(500000, .box 141 [.ref 500000 0, .nils])]⟩
   | some (.box _ [.ref _ 0, .sl k 1 0 n]) => match ob k with
     | some (.row _ 1 m get) => some ⟨[.ref 500000 0], [(500000, .box 141 [.ref 500000 0, .sl 500001 1 0 m]), (500001, .row 5 1 m get)], True, .tup [], [(500000, .box 141 [.ref 500000 0, .sl 500001 1 0 m]), (500001, .row 5 1 m get)]⟩
     | _ => none
   | _ => none
 | _ => none)
theorem yug : ze6 Tryz.prog 117 [.ref 500000 0] [(500000, .box 141 [.nilp, .nils])] (.tup []) [(500000, .box 141 [.ref 500000 0, .nils])] := by
 refine zeg (T := tt) (S := fun L => zh8 [] [zmp]) (lo := noA) (lb := noA) 5 (fn := Tryz.f117) (xs := fun L => [.ref 500000 0]) (rts := fun _ => []) (O := fun L => [(500000, .box 141 [.nilp, .nils])]) (O1 := fun L => [(500000, .box 141 [.ref 500000 0, .nils])])
   rfl rfl (by kernel_rfl) (by kernel_rfl) (by kernel_rfl) zaa (zcv trivial ⟨zog, trivial⟩) (by kernel_rfl) ?_
 intro L P' Q' hL hP hQ
 (cbv; try simp only [syT, true_and, and_true])
 exact ⟨fun _ => trivial, fun h => by cases h⟩
theorem yuf (m : Nat) (get : Nat -> Nat -> AV) : ze6 Tryz.prog 117 [.ref 500000 0] [(500000, .box 141 [.ref 500000 0, .sl 500001 1 0 m]), (500001, .row 5 1 m get)] (.tup []) [(500000, .box 141 [.ref 500000 0, .sl 500001 1 0 m]), (500001, .row 5 1 m get)] := by
 refine zeg (T := tt) (S := fun L => zh8 [] [zmp]) (lo := noA) (lb := noA) 5 (fn := Tryz.f117) (xs := fun L => [.ref 500000 0]) (rts := fun _ => []) (O := fun L => [(500000, .box 141 [.ref 500000 0, .sl 500001 1 0 m]), (500001, .row 5 1 m get)]) (O1 := fun L => [(500000, .box 141 [.ref 500000 0, .sl 500001 1 0 m]), (500001, .row 5 1 m get)])
   rfl rfl (by kernel_rfl) (by kernel_rfl) (by kernel_rfl) zaa (zcv trivial ⟨zog, trivial⟩) (by kernel_rfl) ?_
 intro L P' Q' hL hP hQ
 (cbv; try simp only [syT, true_and, and_true])
 subst hL
 simp [std]
theorem zng : zo2 Tryz.prog yq0 := by
 intro raw ob T hT hp
 unfold yq0 at hT
 simp only at hT
 repeat' split at hT
 all_goals first | (cases hT; done) | (cases hT; exact yug) | (cases hT; exact yuf _ _)
def bld (L : za9) (l : List UInt8) : List (Nat × Ob) := [(500000, .box 141 [.ref 500000 0, .sl 500001 1 0 (L lenN l)]), (500001, .row 5 1 (L lenN l) (fun i _ => .int .u8 (L2 L zca l i)))]
def zvf (L : za9) (l : List UInt8) : List (Nat × Ob) := [(500000, .box 141 [.ref 500000 0, .sl 7 1 0 (L lenN l)]), (7, .row 5 1 (L lenN l) (fun i _ => .int .u8 (L2 L zca l i)))]
def yrc : List (Nat × Ob) := [(500000, .box 141 [.nilp, .nils])]
def yg9 (L : za9) (ob : Nat -> Option Ob) (id : Nat) : Option (Option (List UInt8)) := match ob id with
 | some (.box _ [.nilp, .nils]) => some none
 | some (.box _ [.ref _ 0, .sl k 1 0 n]) => match ob k with
   | some (.row _ 1 m get) => some (some (L2 L zc5 m (fun i => (get i 0).toI)))
   | _ => none
 | _ => none
def zab (l m : List UInt8) : List UInt8 := l ++ m
def zcu (c : Int) : List UInt8 := [UInt8.ofNat c.toNat]
def yrn (c : Int) : Prop := 0 <= c /\ c < 256
def zgn (l m : List UInt8) : Prop := l.length + m.length <= 90000000
def yv7 (L : za9) : yaq := (85, fun raw ob => match raw with
 | [.ref id 0, .int .u8 c] => match yg9 L ob id with
   | some none => some ⟨[.ref 500000 0, .int .u8 c], yrc, L yrn c, .dead, zvf L (L zcu c)⟩
   | some (some l) => some ⟨[.ref 500000 0, .int .u8 c], bld L l, L yrn c /\ L2 L zgn l (L zcu c), .dead, zvf L (L2 L zab l (L zcu c))⟩
   | none => none
 | _ => none)
def yv4 (L : za9) : yaq := (86, fun raw ob => match raw with
 | [.ref id 0, .str s] => match yg9 L ob id with
   | some (some l) => some ⟨[.ref 500000 0, .str s], bld L l, L2 L zgn l s, .tup [.int .i64 (L slen s), .dead], zvf L (L2 L zab l s)⟩
   | _ => none
 | _ => none)
def bs_m (L : za9) : yaq := (56, fun raw ob => match raw with
 | [.ref id 0] => match yg9 L ob id with
   | some (some l) => some ⟨[.ref 500000 0], bld L l, L (fun l => l ≠ [] /\ l.length <= 90000000) l, .str l, []⟩
   | _ => none
 | _ => none)
def bl_m (L : za9) : yaq := (55, fun raw ob => match raw with
 | [.ref id 0] => match yg9 L ob id with
   | some (some l) => some ⟨[.ref 500000 0], bld L l, True, .int .i64 (L slen l), bld L l⟩
   | _ => none
 | _ => none)
theorem zxa {l m : List UInt8} {i : Nat} (h : i < l.length) : zca (l ++ m) i = zca l i := by
 simp [zca, List.getElem?_append_left h]
theorem zx9 {l m : List UInt8} {i : Nat} (h : ¬ i < l.length) : zca (l ++ m) i = zca m (i - l.length) := by
 simp [zca, List.getElem?_append_right (show l.length <= i by omega)]
theorem zib (l : List UInt8) : zc5 l.length (fun i => zca l i) = l := by
 apply List.ext_getElem
 · simp [zc5]
 · intro i h1 h2
   simp [zc5, zca, h2]
theorem zxb {c : Int} (hc : yrn c) (i : Nat) (h : i < 1) : zd3 [c] i = zca (zcu c) i := by
 have : i = 0 := by omega
 subst this
 obtain ⟨h0, h1⟩ := hc
 simp [zd3, zca, zcu, UInt8.toNat_ofNat']
 omega
theorem yrj (c : Int) (hc : yrn c) : ze6 Tryz.prog 85 [.ref 500000 0, .int .u8 c] yrc .dead (zvf std (zcu c)) := by
 refine zeg (T := tt) (S := fun L => zh8 [] [yq0]) (lo := noA) (lb := noA) 5 (fn := Tryz.f85) (xs := fun L => [.ref 500000 0, .int .u8 c]) (rts := fun _ => [.dead]) (O := fun L => yrc) (O1 := fun L => zvf L (L zcu c))
   rfl rfl (by kernel_rfl) (by kernel_rfl) (by kernel_rfl) zaa (zcv trivial ⟨zng, trivial⟩) (by kernel_rfl) ?_
 intro L P' Q' hL hP hQ
 (cbv; try simp only [syT, true_and, and_true])
 subst hL
 simp only [L2, L3, std, zlj]
 have h1 : lenN (zcu c) = 1 := rfl
 rw [h1]
 exact ⟨by omega, ⟨rfl, fun i j hi hj => by rw [show Nat.add 0 i = i from Nat.zero_add i, zxb hc i hi]⟩, rfl⟩
theorem yri (l : List UInt8) (c : Int) (hc : yrn c) (hl : zgn l (zcu c)) : ze6 Tryz.prog 85 [.ref 500000 0, .int .u8 c] (bld std l) .dead (zvf std (zab l (zcu c))) := by
 refine zeg (T := tt) (S := fun L => zh8 [] [yq0]) (lo := noA) (lb := noA) 5 (fn := Tryz.f85) (xs := fun L => [.ref 500000 0, .int .u8 c]) (rts := fun _ => [.dead]) (O := fun L => bld L l) (O1 := fun L => zvf L (L2 L zab l (L zcu c)))
   rfl rfl (by kernel_rfl) (by kernel_rfl) (by kernel_rfl) zaa (zcv trivial ⟨zng, trivial⟩) (by kernel_rfl) ?_
 intro L P' Q' hL hP hQ
 (cbv; try simp only [syT, true_and, and_true])
 subst hL
 simp only [L2, L3, std, zlj]
 have h1 : lenN (zab l (zcu c)) = l.length + 1 := by simp [lenN, zab, zcu]
 have h2 : (zcu c).length = 1 := rfl
 have hl : l.length + (zcu c).length <= 90000000 := hl
 have h3 : lenN l = l.length := rfl
 rw [h1, h3]
 refine ⟨fun _ _ _ _ => trivial, by omega, ⟨rfl, fun i j hi hj => ?_⟩, rfl⟩
 by_cases h : i < l.length
 · rw [zel h, show zab l (zcu c) = l ++ zcu c from rfl, zxa h]; rfl
 · rw [zf7 h, show zab l (zcu c) = l ++ zcu c from rfl, zx9 h]
   show AV.int .u8 (zd3 [c] (Nat.add 0 (i - l.length))) = _
   rw [show Nat.add 0 (i - l.length) = i - l.length from Nat.zero_add _, zxb hc _ (by omega)]
theorem yrf (l s : List UInt8) (hl : zgn l s) : ze6 Tryz.prog 86 [.ref 500000 0, .str s] (bld std l) (.tup [.int .i64 (slen s), .dead]) (zvf std (zab l s)) := by
 refine zeg (T := tt) (S := fun L => zh8 [] [yq0]) (lo := noA) (lb := noA) 5 (fn := Tryz.f86) (xs := fun L => [.ref 500000 0, .str s]) (rts := fun L => [.int .i64 (L slen s), .dead]) (O := fun L => bld L l) (O1 := fun L => zvf L (L2 L zab l s))
   rfl rfl (by kernel_rfl) (by kernel_rfl) (by kernel_rfl) zaa (zcv trivial ⟨zng, trivial⟩) (by kernel_rfl) ?_
 intro L P' Q' hL hP hQ
 (cbv; try simp only [syT, true_and, and_true])
 subst hL
 simp only [L2, L3, std, zlj]
 have h1 : lenN (zab l s) = l.length + s.length := by simp [lenN, zab]
 have hl : l.length + s.length <= 90000000 := hl
 have h3 : lenN l = l.length := rfl
 rw [h1, h3]
 refine ⟨fun _ _ _ _ => trivial, by omega, ⟨rfl, fun i j hi hj => ?_⟩, rfl⟩
 by_cases h : i < l.length
 · rw [zel h, show zab l s = l ++ s from rfl, zxa h]; rfl
 · rw [zf7 h, show zab l s = l ++ s from rfl, zx9 h]; rfl
theorem yul (l : List UInt8) (h0 : l ≠ []) (hl : l.length <= 90000000) : ze6 Tryz.prog 56 [.ref 500000 0] (bld std l) (.str l) [] := by
 refine zeg (T := tt) (S := fun L => zh8 [] [yq0]) (lo := noA) (lb := noA) 5 (fn := Tryz.f56) (xs := fun L => [.ref 500000 0]) (rts := fun L => [.str l]) (O := fun L => bld L l) (O1 := fun L => [])
   rfl rfl (by kernel_rfl) (by kernel_rfl) (by kernel_rfl) zaa (zcv trivial ⟨zng, trivial⟩) (by kernel_rfl) ?_
 intro L P' Q' hL hP hQ
 (cbv; try simp only [syT, true_and, and_true])
 subst hL
 simp only [L2, L3, std]
 have h3 : lenN l = l.length := rfl
 have h1 : 0 < l.length := List.length_pos_iff.2 h0
 refine ⟨zel h1, ⟨by show (0 : Int) < (l.length : Int); omega, by show (l.length : Int) <= (l.length : Int); omega, by show (l.length : Int) <= _; omega, fun i hi => ⟨_, rfl, ?_, ?_⟩⟩, zib l⟩
 · simp [zca]
 · have := UInt8.toNat_lt (l.getD i 0)
   show ((l.getD i 0).toNat : Int) < 256
   omega
theorem yum (l : List UInt8) : ze6 Tryz.prog 55 [.ref 500000 0] (bld std l) (.int .i64 (slen l)) (bld std l) := by
 refine zeg (T := tt) (S := fun L => zh8 [] [yq0]) (lo := noA) (lb := noA) 5 (fn := Tryz.f55) (xs := fun L => [.ref 500000 0]) (rts := fun L => [.int .i64 (L slen l)]) (O := fun L => bld L l) (O1 := fun L => bld L l)
   rfl rfl (by kernel_rfl) (by kernel_rfl) (by kernel_rfl) zaa (zcv trivial ⟨zng, trivial⟩) (by kernel_rfl) ?_
 intro L P' Q' hL hP hQ
 (cbv; try simp only [syT, true_and, and_true])
 subst hL
 exact ⟨fun _ _ _ _ => trivial, rfl⟩
theorem yaw : zo2 Tryz.prog (yv7 std) := by
 intro raw ob T hT hp
 unfold yv7 at hT
 simp only at hT
 repeat' split at hT
 all_goals first | (cases hT; done) | (cases hT; exact yrj _ hp) | (cases hT; exact yri _ _ hp.1 hp.2)
theorem yar : zo2 Tryz.prog (yv4 std) := by
 intro raw ob T hT hp
 unfold yv4 at hT
 simp only at hT
 repeat' split at hT
 all_goals first | (cases hT; done) | (cases hT; exact yrf _ _ hp)
theorem yqe : zo2 Tryz.prog (bs_m std) := by
 intro raw ob T hT hp
 unfold bs_m at hT
 simp only at hT
 repeat' split at hT
 all_goals first | (cases hT; done) | (cases hT; exact yul _ hp.1 hp.2)
theorem yqi : zo2 Tryz.prog (bl_m std) := by
 intro raw ob T hT hp
 unfold bl_m at hT
 simp only at hT
 repeat' split at hT
 all_goals first | (cases hT; done) | (cases hT; exact yum _)
inductive CV where
 | mk (k n : Int) (s : List UInt8) (l : List CV)
namespace CV
def kd : CV -> Int
 | mk k _ _ _ => k
def nn : CV -> Int
 | mk _ n _ _ => n
def tx : CV -> List UInt8
 | mk _ _ s _ => s
def ls : CV -> List CV
 | mk _ _ _ l => l
theorem eta (v : CV) : mk v.kd v.nn v.tx v.ls = v := by cases v; rfl
end CV
def zbj (l : List CV) (i : Nat) : CV := l.getD i (.mk 0 0 [] [])
def lenL (l : List CV) : Nat := l.length
def zcx (v : CV) : Nat := v.ls.length
def sizeC : CV -> Nat
 | .mk _ _ _ l => sizeCs l + 1
where sizeCs : List CV -> Nat
 | [] => 0
 | v :: l => sizeC v + sizeCs l
abbrev sizeCs := sizeC.sizeCs
theorem zbp : sizeCs [] = 0 := by simp [sizeC.sizeCs]
theorem zb5 (v : CV) (l : List CV) : sizeCs (v :: l) = sizeC v + sizeCs l := by simp [sizeC.sizeCs]
theorem zc0 (k n : Int) (s : List UInt8) (l : List CV) : sizeC (.mk k n s l) = sizeCs l + 1 := by rw [sizeC]
theorem zdb (v : CV) : 0 < sizeC v := by cases v; rw [zc0]; omega
theorem zm8 : ∀ (l : List CV) (i : Nat), i < l.length -> sizeC (zbj l i) <= sizeCs l
 | [], i, h => by simp at h
 | v :: l, 0, h => by rw [zb5]; show sizeC v <= _; omega
 | v :: l, i + 1, h => by
   have := zm8 l i (by simpa using h)
   rw [zb5]
   show sizeC (zbj l i) <= _
   omega
theorem zwc {l : List CV} {i : Nat} (h : i < l.length) : zbj l i ∈ l := by
 rw [zbj, List.getD_eq_getElem?_getD, List.getElem?_eq_getElem h]; exact List.getElem_mem h
theorem yls {p : CV -> Prop} (h : ∀ k n s l, (∀ v ∈ l, p v) -> p (.mk k n s l)) : ∀ (m : Nat) (v : CV), sizeC v <= m -> p v
 | 0, v, hv => by have := zdb v; omega
 | m + 1, .mk k n s l, hv => h k n s l fun w hw => by
   rw [zc0] at hv
   obtain ⟨i, hi, rfl⟩ := List.getElem_of_mem hw
   have := zm8 l i hi
   have e : zbj l i = l[i] := by rw [zbj, List.getD_eq_getElem?_getD, List.getElem?_eq_getElem hi]; rfl
   rw [e] at this
   exact yls h m _ (by omega)
theorem yfa {p : CV -> Prop} (h : ∀ k n s l, (∀ v ∈ l, p v) -> p (.mk k n s l)) (v : CV) : p v := yls h _ v (Nat.le_refl _)
def dflC : Nat -> AV
 | 0 => .int .i64 0
 | 1 => .int .u64 0
 | 2 => .str []
 | _ => .lst 4 0 (fun _ _ => .dead)
mutual
def zf5 : CV -> Nat -> AV
 | .mk k n s l, j => match j with
   | 0 => .int .i64 k
   | 1 => .int .u64 n
   | 2 => .str s
   | _ => .lst 4 l.length (zek l)
def zek : List CV -> Nat -> Nat -> AV
 | [], _, j => dflC j
 | v :: l, i, j => match i with
   | 0 => zf5 v j
   | i + 1 => zek l i j
end
theorem zgy (v : CV) : zf5 v 0 = .int .i64 v.kd := by cases v; rw [zf5]; rfl
theorem zgx (v : CV) : zf5 v 1 = .int .u64 v.nn := by cases v; rw [zf5]; rfl
theorem zgw (v : CV) : zf5 v 2 = .str v.tx := by cases v; rw [zf5]; rfl
theorem zgv (v : CV) : zf5 v 3 = .lst 4 v.ls.length (zek v.ls) := by cases v; rw [zf5] <;> first | rfl | (intro h; cases h)
theorem zb4 : ∀ (l : List CV) (i j : Nat), i < l.length -> zek l i j = zf5 (zbj l i) j
 | [], i, j, h => by simp at h
 | v :: l, 0, j, h => by rw [zek]; rfl
 | v :: l, i + 1, j, h => by rw [zek]; exact zb4 l i j (by simpa using h)
def zer (v : CV) : Nat -> Nat -> AV := zek v.ls
def cv1 (L : za9) (v : CV) : Nat -> AV
 | 0 => .int .i64 (L CV.kd v)
 | 1 => .int .u64 (L CV.nn v)
 | 2 => .str (L CV.tx v)
 | _ => .lst 4 (L zcx v) (L zer v)
theorem zd6 (v : CV) (j : Nat) (h : j < 4) : cv1 std v j = zf5 v j := by
 match j, h with
 | 0, _ => rw [zgy]; rfl
 | 1, _ => rw [zgx]; rfl
 | 2, _ => rw [zgw]; rfl
 | 3, _ => rw [zgv]; rfl
def cvL (L : za9) (l : List CV) : AV := .lst 4 (L lenL l) (fun i j => cv1 L (L2 L zbj l i) j)
def cvA (L : za9) (v : CV) : AV := .agg [.int .i64 (L CV.kd v), .int .u64 (L CV.nn v), .str (L CV.tx v), .lst 4 (L zcx v) (L zer v)]
def rdL : AV -> List CV
 | .lst _ n get => (List.range n).map fun i => .mk (get i 0).toI (get i 1).toI (match get i 2 with | .str s => s | _ => []) (rdL (get i 3))
 | _ => []
def okL : AV -> Prop
 | .lst sz n get => sz = 4 /\ ∀ i, i < n -> (∃ x, get i 0 = .int .i64 x) /\ (∃ x, get i 1 = .int .u64 x) /\ (∃ x, get i 2 = .str x) /\ okL (get i 3)
 | .nils => True
 | _ => False
theorem zjb (sz n : Nat) (get : Nat -> Nat -> AV) : (rdL (.lst sz n get)).length = n := by simp [rdL]
theorem zrc {sz n : Nat} {get : Nat -> Nat -> AV} {i : Nat} (h : i < n) : zbj (rdL (.lst sz n get)) i = .mk (get i 0).toI (get i 1).toI (match get i 2 with | .str s => s | _ => []) (rdL (get i 3)) := by
 rw [zbj, List.getD_eq_getElem?_getD, rdL]
 simp [h]
theorem yf9 {a b : List CV} (h : a.length = b.length) (k : ∀ i, i < a.length -> zbj a i = zbj b i) : a = b := by
 apply List.ext_getElem h
 intro i h1 h2
 have := k i h1
 rw [zbj, zbj, List.getD_eq_getElem?_getD, List.getD_eq_getElem?_getD, List.getElem?_eq_getElem h1, List.getElem?_eq_getElem h2] at this
 exact this
theorem yn6 : ∀ v : CV, rdL (zf5 v 3) = v.ls /\ okL (zf5 v 3) := by
 refine yfa fun k n s l ih => ?_
 rw [zgv]
 show rdL (.lst 4 l.length (zek l)) = l /\ okL (.lst 4 l.length (zek l))
 refine ⟨yf9 (zjb _ _ _) fun i hi => ?_, rfl, fun i hi => ?_⟩
 · rw [zjb] at hi
   rw [zrc hi, zb4 _ _ _ hi, zb4 _ _ _ hi, zb4 _ _ _ hi, zb4 _ _ _ hi, zgy, zgx, zgw, (ih _ (zwc hi)).1]
   exact CV.eta _
 · rw [zb4 _ _ _ hi, zb4 _ _ _ hi, zb4 _ _ _ hi, zb4 _ _ _ hi, zgy, zgx, zgw]
   exact ⟨⟨_, rfl⟩, ⟨_, rfl⟩, ⟨_, rfl⟩, (ih _ (zwc hi)).2⟩
theorem zfb (v : CV) : rdL (.lst 4 (zcx v) (zer v)) = v.ls /\ okL (.lst 4 (zcx v) (zer v)) := by
 have := yn6 v
 rw [zgv] at this
 exact this
theorem yct (l : List CV) : rdL (cvL std l) = l /\ okL (cvL std l) := by
 refine ⟨yf9 (zjb _ _ _) fun i hi => ?_, rfl, fun i hi => ⟨⟨_, rfl⟩, ⟨_, rfl⟩, ⟨_, rfl⟩, (zfb _).2⟩⟩
 have hi : i < l.length := by rw [show (rdL (cvL std l)).length = lenL l from zjb _ _ _] at hi; exact hi
 show zbj (rdL (.lst 4 (lenL l) _)) i = _
 rw [zrc (show i < lenL l from hi)]
 show CV.mk (zbj l i).kd (zbj l i).nn (zbj l i).tx (rdL (.lst 4 (zcx (zbj l i)) (zer (zbj l i)))) = _
 rw [(zfb _).1, CV.eta]
theorem yso {h : Array Obj} {D : Nat -> Prop} : ∀ (x : AV) {μ : Mu} {v : Value}, okL x -> R h D μ x v -> R h D μ (.lst 4 (rdL x).length (zek (rdL x))) v := by
 intro x μ v ho r
 induction r with
 | nils => exact .lst0 _ _ _ _ (fun _ => rfl)
 | lst0 sz get a cap hn => exact .lst0 _ _ _ _ hn
 | lst sz n get b o cap vs hD hc hv h1 hr ih =>
   obtain ⟨rfl, ho⟩ := ho
   rw [zjb]
   refine .lst _ _ _ b o cap vs hD hc hv h1 (fun i j hi hj => ?_)
   rw [zb4 _ _ _ (by rw [zjb]; exact hi), zrc hi]
   obtain ⟨⟨x0, e0⟩, ⟨x1, e1⟩, ⟨x2, e2⟩, o3⟩ := ho i hi
   have hj' := hr i j hi hj
   match j, hj with
   | 0, _ => rw [zgy]; rw [e0] at hj' |-; exact hj'
   | 1, _ => rw [zgx]; rw [e1] at hj' |-; exact hj'
   | 2, _ => rw [zgw]; rw [e2] at hj' |-; exact hj'
   | 3, _ => rw [zgv]; exact ih i 3 hi (by omega) o3
 | _ => exact ho.elim
theorem yu9 {h : Array Obj} {D : Nat -> Prop} {μ : Mu} {l : List CV} {v : Value} (r : R h D μ (.lst 4 l.length (zek l)) v) : R h D μ (cvL std l) v :=
 zjt r fun i j hi hj => by
   rw [zb4 _ _ _ hi]
   exact (zd6 _ j hj).symm
mutual
def zcl : CV -> Int
 | .mk k _ _ l => if k = 3 then zaw l + 1 else 0
def zaw : List CV -> Int
 | [] => 0
 | v :: l => max (zcl v) (zaw l)
end
theorem zku : ∀ a b : List CV, zaw (a ++ b) = max (zaw a) (zaw b)
 | [], b => by
   rw [List.nil_append, zaw]
   have : ∀ b : List CV, 0 <= zaw b := by
     intro b
     induction b with
     | nil => rw [zaw]; omega
     | cons v l ih => rw [zaw]; omega
   have := this b
   omega
 | v :: a, b => by rw [List.cons_append, zaw, zku a b, zaw]; omega
theorem zvp {l : List CV} {i : Nat} (h : i < l.length) : l.take (i + 1) = l.take i ++ [zbj l i] := by
 rw [List.take_succ_eq_append_getElem h, zbj, List.getD_eq_getElem?_getD, List.getElem?_eq_getElem h]; rfl
def zfm (l : List CV) (i : Nat) : Int := zaw (l.take i)
theorem ziw {l : List CV} {i : Nat} (h : i < l.length) : zfm l (i + 1) = max (zfm l i) (zcl (zbj l i)) := by
 unfold zfm
 rw [zvp h, zku, zaw, zaw]
 have : 0 <= zcl (zbj l i) \/ True := .inr trivial
 have h0 : ∀ b : List CV, 0 <= zaw b := by
   intro b
   induction b with
   | nil => rw [zaw]; omega
   | cons v l ih => rw [zaw]; omega
 have := h0 (l.take i)
 omega
mutual
def zda : CV -> Bool
 | .mk k n s l => if k = 1 then decide (s = []) && l.isEmpty else if k = 2 then decide (n = 0) && l.isEmpty else if k = 3 then decide (n = 0) && decide (s = []) && zbl l else false
def zbl : List CV -> Bool
 | [] => true
 | v :: l => zda v && zbl l
end
def zf6 (k : Int) : List UInt8 := [UInt8.ofNat (k % 256).toNat]
mutual
def zbe : CV -> List UInt8
 | .mk k n s l => zf6 k ++ if k = 1 then zat n else if k = 2 then zat s.length ++ s else zat l.length ++ zap l
def zap : List CV -> List UInt8
 | [] => []
 | v :: l => zbe v ++ zap l
end
theorem zfx : ∀ a b : List CV, zap (a ++ b) = zap a ++ zap b
 | [], b => by rw [zap]; rfl
 | v :: a, b => by rw [List.cons_append, zap, zfx a b, zap, List.append_assoc]
def zfw (l : List CV) (i : Nat) : List UInt8 := zap (l.take i)
theorem zd0 {l : List CV} {i : Nat} (h : i < l.length) : zfw l (i + 1) = zfw l i ++ zbe (zbj l i) := by
 unfold zfw
 rw [zvp h, zfx, zap, zap, List.append_nil]
def mkV (L : za9) (k n : Int) (s : List UInt8) (x : AV) : CV := L (L (L (L CV.mk k) n) s) (L rdL x)
def zj4 (N : Nat) (v : CV) : Prop := sizeC v <= N /\ N <= 1000000
def zt8 (N : Nat) (l : List CV) : Prop := sizeCs l <= N /\ N <= 1000000
theorem ze3 : ∀ l : List CV, l.length <= sizeCs l
 | [] => by simp
 | v :: l => by
   have := ze3 l
   have := zdb v
   rw [zb5, List.length_cons]; omega
theorem zfh {N : Nat} {l : List CV} {i : Nat} (h : zt8 N l) (hi : i < l.length) : zj4 N (zbj l i) := by
 have := zm8 l i hi
 exact ⟨by have := h.1; omega, h.2⟩
theorem zac {N : Nat} {k n : Int} {s : List UInt8} {l : List CV} : zj4 (N + 1) (.mk k n s l) = (zt8 N l /\ N + 1 <= 1000000) := by
 unfold zj4 zt8
 rw [zc0]
 exact propext ⟨fun h => ⟨⟨by omega, by omega⟩, by omega⟩, fun h => ⟨by have := h.1.1; omega, h.2⟩⟩
theorem zbm (v : CV) : CV.mk v.kd v.nn v.tx (rdL (.lst 4 (zcx v) (zer v))) = v := by rw [(zfb v).1]; exact CV.eta v
theorem zad (v : CV) : mkV std v.kd v.nn v.tx (.lst 4 (zcx v) (zer v)) = v := zbm v
theorem rdl (l : List CV) : rdL (.lst 4 (lenL l) fun i => cv1 std (zbj l i)) = l := (yct l).1
theorem okl (l : List CV) : okL (.lst 4 (lenL l) fun i => cv1 std (zbj l i)) := (yct l).2
theorem mkl (k n : Int) (s : List UInt8) (l : List CV) : mkV std k n s (.lst 4 (lenL l) fun i => cv1 std (zbj l i)) = .mk k n s l := by
 show CV.mk k n s (rdL _) = _
 rw [rdl]
theorem ym5 {h : Array Obj} {D : Nat -> Prop} {μ : Mu} {a b c x : AV} {v : Value} (ho : okL x) (r : R h D μ (.agg [a, b, c, x]) v) : R h D μ (.agg [a, b, c, cvL std (rdL x)]) v := by
 obtain ⟨us, rfl, o1, s1, hr⟩ := r.inv_agg
 refine .agg _ _ (by rw [<- s1]; rfl) o1 fun i y v hy hv => ?_
 match i, hy with
 | 0, hy => cases hy; exact hr 0 _ v rfl hv
 | 1, hy => cases hy; exact hr 1 _ v rfl hv
 | 2, hy => cases hy; exact hr 2 _ v rfl hv
 | 3, hy => cases hy; exact yu9 (yso x ho (hr 3 _ v rfl hv))
 | i + 4, hy => simp at hy
theorem yvm {h : Array Obj} {D : Nat -> Prop} {μ : Mu} {x y : AV} {r : List AV} {vs : Array Value} (e : ∀ v, R h D μ x v -> R h D μ y v) (hr : RL h D μ (x :: r) vs) : RL h D μ (y :: r) vs := by
 refine ⟨by rw [<- hr.1]; rfl, fun i z v hz hv => ?_⟩
 cases i with
 | zero => cases hz; exact e v (hr.2 0 x v rfl hv)
 | succ i => exact hr.2 (i + 1) z v hz hv
theorem ywo {h : Array Obj} {D : Nat -> Prop} {μ : Mu} {a x y : AV} {r : List AV} {vs : Array Value} (e : ∀ v, R h D μ x v -> R h D μ y v) (hr : RL h D μ (a :: x :: r) vs) : RL h D μ (a :: y :: r) vs := by
 refine ⟨by rw [<- hr.1]; rfl, fun i z v hz hv => ?_⟩
 match i, hz with
 | 0, hz => exact hr.2 0 z v hz hv
 | 1, hz => cases hz; exact e v (hr.2 1 x v rfl hv)
 | i + 2, hz => exact hr.2 (i + 2) z v hz hv
theorem zka {P : Program} {f : FuncId} {xs ys : List AV} {r : AV} (h : ∀ h D vs, RL h D zav xs vs -> RL h D zav ys vs) (ha : za7 P f ys r) : za7 P f xs r := fun D w vs hD hx => ha D w vs hD (h _ _ _ hx)
theorem ylz {P : Program} {f : FuncId} {a b c x r : AV} (ho : okL x) (h : za7 P f [.agg [a, b, c, cvL std (rdL x)]] r) : za7 P f [.agg [a, b, c, x]] r :=
 zka (fun h D vs hr => yvm (fun v => ym5 ho) hr) h
theorem ytb {h : Array Obj} {D : Nat -> Prop} {μ : Mu} {x : AV} {v : Value} (ho : okL x) (r : R h D μ x v) : R h D μ (cvL std (rdL x)) v := yu9 (yso x ho r)
theorem yvz {P : Program} {f : FuncId} {x r : AV} {q : List AV} (ho : okL x) (h : za7 P f (cvL std (rdL x) :: q) r) : za7 P f (x :: q) r :=
 zka (fun h D vs hr => yvm (fun v => ytb ho) hr) h
def deepA (L : za9) (l : List CV) : Nat -> St -> Option Ann := fun id s => match id with
 | 0 => some ⟨Nat, fun i => [(12, .int .i64 (L zbu i)), (3, .int .i64 (L2 L zfm l i))], fun i => [], [10, 11], [],
     fun i => L2 L (fun (l : List CV) i => i <= l.length) l i, fun i => L2 L (fun (l : List CV) (i : Nat) => l.length - i) l i⟩
 | _ => none
def zsc (N : Nat) (L : za9) : zbn := (53, fun xs => match xs with
 | [.agg [.int .i64 k, .int .u64 n, .str s, x]] => some (L okL x /\ L2 L zj4 N (mkV L k n s x), .int .i64 (L zcl (mkV L k n s x)))
 | _ => none)
theorem ypr : ∀ v, 0 <= zcl v /\ zcl v <= (sizeC v : Int) := by
 refine yfa fun k n s l ih => ?_
 have : ∀ m : List CV, (∀ v ∈ m, 0 <= zcl v /\ zcl v <= (sizeC v : Int)) -> 0 <= zaw m /\ zaw m <= (sizeCs m : Int) := by
   intro m
   induction m with
   | nil => intro _; rw [zaw, zbp]; omega
   | cons v m ih =>
     intro h
     have h1 := h v (by simp)
     have h2 := ih fun w hw => h w (by simp [hw])
     rw [zaw, zb5]; omega
 have := this l ih
 rw [zcl, zc0]
 split <;> omega
theorem zsd (l : List CV) (i : Nat) : 0 <= zfm l i /\ zfm l i <= (sizeCs l : Int) := by
 have h1 : ∀ m : List CV, 0 <= zaw m /\ zaw m <= (sizeCs m : Int) := by
   intro m
   induction m with
   | nil => rw [zaw, zbp]; omega
   | cons v m ih => have := ypr v; rw [zaw, zb5]; omega
 have h2 := h1 (l.take i)
 have h3 : ∀ (m : List CV) (i : Nat), sizeCs (m.take i) <= sizeCs m := by
   intro m
   induction m with
   | nil => intro i; simp
   | cons v m ih =>
     intro i
     cases i with
     | zero => rw [List.take_zero, zbp]; omega
     | succ i => have := ih i; rw [List.take_succ_cons, zb5, zb5]; omega
 have := h3 l i
 exact ⟨h2.1, by unfold zfm; omega⟩
theorem yf5 : ∀ N, zay Tryz.prog (zsc N std) := by
 intro N
 induction N with
 | zero =>
   intro xs p r h hp
   unfold zsc at h
   simp only at h
   split at h
   · rename_i k n s x
     cases h
     have h1 : sizeC (mkV std k n s x) <= 0 := hp.2.1
     have := zdb (mkV std k n s x)
     omega
   · cases h
 | succ N ih =>
   intro xs p r h hp
   unfold zsc at h
   simp only at h
   split at h
   · rename_i k n s x
     cases h
     obtain ⟨ho, hz⟩ := hp
     refine ylz ho ?_
     show za7 _ _ _ (.int .i64 (zcl (.mk k n s (rdL x))))
     have hz : zj4 (N + 1) (.mk k n s (rdL x)) := hz
     generalize rdL x = l at hz |-
     refine za8 (T := tt) (S := fun L => zai [zsc N L]) (lo := fun L => deepA L l) (lb := noA) 5 (fn := Tryz.f53) (xs := fun L => [.agg [.int .i64 k, .int .u64 n, .str s, cvL L l]]) rfl rfl (by kernel_rfl) (by kernel_rfl) rfl zaa
       (za1 ⟨ih, trivial⟩) (by kernel_rfl) ?_
     intro L P' Q' hL hP hQ
     (cbv; try simp only [syT, true_and, and_true])
     refine ⟨fun h => ?_, fun h => ⟨⟨0, ?_⟩, fun i hi => ?_⟩⟩
     · (subst hL; subst hQ; simp only [L2, L3, std] at *; try simp only [syS, reduceCtorEq, Int.reduceToNat, Int.reduceAdd, Int.reduceSub] at *)
       rw [zcl, if_neg h]
     · (cbv; try simp only [syT, true_and, and_true])
       (subst hL; subst hQ; simp only [L2, L3, std] at *; try simp only [syS, reduceCtorEq, Int.reduceToNat, Int.reduceAdd, Int.reduceSub] at *)
       exact ⟨by rw [zfm, List.take_zero, zaw], Nat.zero_le _⟩
     · cbv at hi
       (cbv; try simp only [syT, true_and, and_true])
       refine ⟨fun hlt => ⟨?_, ⟨?_, ?_⟩, ⟨i + 1, ?_⟩⟩, fun hge => ?_⟩
       · (subst hL; subst hQ; simp only [L2, L3, std] at *; try simp only [syS, reduceCtorEq, Int.reduceToNat, Int.reduceAdd, Int.reduceSub] at *)
         omega
       · (subst hL; subst hQ; simp only [L2, L3, std] at *; try simp only [syS, reduceCtorEq, Int.reduceToNat, Int.reduceAdd, Int.reduceSub] at *)
         exact (zfb _).2
       · (subst hL; subst hQ; simp only [L2, L3, std] at *; try simp only [syS, reduceCtorEq, Int.reduceToNat, Int.reduceAdd, Int.reduceSub] at *)
         rw [zbm]
         rw [zac] at hz
         exact zfh hz.1 (by have : lenL l = l.length := rfl; omega)
       · (cbv; try simp only [syT, true_and, and_true])
         (subst hL; subst hQ; simp only [L2, L3, std] at *; try simp only [syS, reduceCtorEq, Int.reduceToNat, Int.reduceAdd, Int.reduceSub] at *)
         have : lenL l = l.length := rfl
         have := ze3 l
         have h1 := hz.1
         have h2 := hz.2
         rw [zc0] at h1
         rw [zad]
         exact ⟨by rw [ziw (by omega)], by omega, by omega, by omega⟩
       · (subst hL; subst hQ; simp only [L2, L3, std] at *; try simp only [syS, reduceCtorEq, Int.reduceToNat, Int.reduceAdd, Int.reduceSub] at *)
         have : lenL l = l.length := rfl
         have hil : i = l.length := by omega
         have h3 := zsd l i
         have h1 := hz.1
         have h2 := hz.2
         rw [zc0] at h1
         rw [zcl, if_pos h, hil, zfm, List.take_length]
         rw [hil, zfm, List.take_length] at h3
         omega
   · cases h
def ysa (L : za9) (l : List CV) : Nat -> St -> Option Ann := fun id s => match id with
 | 0 => some ⟨Nat, fun i => [(13, .int .i64 (L zbu i)), (3, .int .i64 (L2 L zfm l i))], fun i => [], [11, 12], [],
     fun i => L2 L (fun (l : List CV) i => i <= l.length) l i, fun i => L2 L (fun (l : List CV) (i : Nat) => l.length - i) l i⟩
 | _ => none
def zmh (N : Nat) (L : za9) : zbn := (69, fun xs => match xs with
 | [.agg [.int .i64 k, .int .u64 n, .str s, x]] => some (L okL x /\ L2 L zj4 N (mkV L k n s x), .int .i64 (L zcl (mkV L k n s x)))
 | _ => none)
theorem zyf : ∀ N, zay Tryz.prog (zmh N std) := by
 intro N
 induction N with
 | zero =>
   intro xs p r h hp
   unfold zmh at h
   simp only at h
   split at h
   · rename_i k n s x
     cases h
     have h1 : sizeC (mkV std k n s x) <= 0 := hp.2.1
     have := zdb (mkV std k n s x)
     omega
   · cases h
 | succ N ih =>
   intro xs p r h hp
   unfold zmh at h
   simp only at h
   split at h
   rotate_left
   · cases h
   rename_i k n s x
   cases h
   obtain ⟨ho, hz⟩ := hp
   refine ylz ho ?_
   rw [show mkV std k n s x = .mk k n s (rdL x) from rfl] at hz |-
   generalize rdL x = l at hz |-
   have hz : zj4 (N + 1) (.mk k n s l) := hz
   refine za8 (T := tt) (S := fun L => zai [zmh N L]) (lo := fun L => ysa L l) (lb := noA) 5 (fn := Tryz.f69) (xs := fun L => [.agg [.int .i64 k, .int .u64 n, .str s, cvL L l]]) rfl rfl (by kernel_rfl) (by kernel_rfl) rfl zaa
     (za1 ⟨ih, trivial⟩) (by kernel_rfl) ?_
   intro L P' Q' hL hP hQ
   (cbv; try simp only [syT, true_and, and_true])
   refine ⟨fun h => ?_, fun h => ⟨⟨0, ?_⟩, fun i hi => ?_⟩⟩
   · (subst hL; subst hQ; simp only [L2, L3, std] at *; try simp only [syS, reduceCtorEq, Int.reduceToNat, Int.reduceAdd, Int.reduceSub] at *)
     rw [zcl, if_neg h]
   · (cbv; try simp only [syT, true_and, and_true])
     (subst hL; subst hQ; simp only [L2, L3, std] at *; try simp only [syS, reduceCtorEq, Int.reduceToNat, Int.reduceAdd, Int.reduceSub] at *)
     exact ⟨by rw [zfm, List.take_zero, zaw], Nat.zero_le _⟩
   · cbv at hi
     (cbv; try simp only [syT, true_and, and_true])
     refine ⟨fun hlt => ⟨?_, ⟨?_, ?_⟩, fun hgt => ⟨i + 1, ?_⟩, fun hgt => ⟨i + 1, ?_⟩⟩, fun hge => ?_⟩
     · (subst hL; subst hQ; simp only [L2, L3, std] at *; try simp only [syS, reduceCtorEq, Int.reduceToNat, Int.reduceAdd, Int.reduceSub] at *)
       omega
     · (subst hL; subst hQ; simp only [L2, L3, std] at *; try simp only [syS, reduceCtorEq, Int.reduceToNat, Int.reduceAdd, Int.reduceSub] at *)
       exact (zfb _).2
     · (subst hL; subst hQ; simp only [L2, L3, std] at *; try simp only [syS, reduceCtorEq, Int.reduceToNat, Int.reduceAdd, Int.reduceSub] at *)
       rw [zbm]
       rw [zac] at hz
       exact zfh hz.1 (by have : lenL l = l.length := rfl; omega)
     · (cbv; try simp only [syT, true_and, and_true])
       (subst hL; subst hQ; simp only [L2, L3, std] at *; try simp only [syS, reduceCtorEq, Int.reduceToNat, Int.reduceAdd, Int.reduceSub] at *)
       have : lenL l = l.length := rfl
       have := ze3 l
       have h1 := hz.1
       have h2 := hz.2
       rw [zc0] at h1
       rw [zad] at hgt |-
       exact ⟨by rw [ziw (by omega)]; omega, by omega, by omega, by omega⟩
     · (cbv; try simp only [syT, true_and, and_true])
       (subst hL; subst hQ; simp only [L2, L3, std] at *; try simp only [syS, reduceCtorEq, Int.reduceToNat, Int.reduceAdd, Int.reduceSub] at *)
       have : lenL l = l.length := rfl
       have := ze3 l
       have h1 := hz.1
       have h2 := hz.2
       rw [zc0] at h1
       rw [zad] at hgt
       exact ⟨by rw [ziw (by omega)]; omega, by omega, by omega, by omega⟩
     · (subst hL; subst hQ; simp only [L2, L3, std] at *; try simp only [syS, reduceCtorEq, Int.reduceToNat, Int.reduceAdd, Int.reduceSub] at *)
       have : lenL l = l.length := rfl
       have hil : i = l.length := by omega
       have h3 := zsd l i
       have h1 := hz.1
       have h2 := hz.2
       rw [zc0] at h1
       rw [zcl, if_pos h, hil, zfm, List.take_length]
       rw [hil, zfm, List.take_length] at h3
       omega
theorem zar : ∀ l : List CV, zbl l = true ↔ ∀ i, i < l.length -> zda (zbj l i) = true
 | [] => by rw [zbl]; simp
 | v :: l => by
   rw [zbl, Bool.and_eq_true, zar l]
   refine ⟨fun ⟨h1, h2⟩ i hi => ?_, fun h => ⟨h 0 (by simp), fun i hi => h (i + 1) (by simpa using hi)⟩⟩
   cases i with
   | zero => exact h1
   | succ i => exact h2 i (by simpa using hi)
def yjg (l : List CV) : Int := if zbl l = true then -1 else (l.findIdx fun v => !zda v : Nat)
def ylw (l : List CV) (i : Nat) : Prop := i <= l.length /\ ∀ j, j < i -> zda (zbj l j) = true
theorem yox {l : List CV} {i : Nat} (hi : i < l.length) (h : ∀ j, j < i -> zda (zbj l j) = true) (hn : zda (zbj l i) = false) : yjg l = (i : Int) := by
 have hb : ¬ zbl l = true := by
   rw [zar]
   intro h2
   have := h2 i hi
   rw [hn] at this; cases this
 rw [yjg, if_neg hb]
 congr 1
 rw [List.findIdx_eq hi]
 have get : ∀ (j : Nat) (hj : j < l.length), l[j] = zbj l j := by
   intro j hj
   rw [zbj, List.getD_eq_getElem?_getD, List.getElem?_eq_getElem hj]; rfl
 refine ⟨by rw [get i hi, hn]; rfl, fun j hj => ?_⟩
 have hj' := h j hj
 rw [get j (by omega), hj']; rfl
theorem yjf {l : List CV} (h : ∀ j, j < l.length -> zda (zbj l j) = true) : yjg l = -1 := by rw [yjg, if_pos ((zar l).2 h)]
theorem yow (l : List CV) : (0 <= yjg l) = (zbl l = false) := by
 unfold yjg
 split
 · rename_i h; rw [h]; simp
 · rename_i h; simp at h; rw [h]; simp
def yvy (N : Nat) (L : za9) : zbn := (84, fun xs => match xs with
 | [.agg [.int .i64 k, .int .u64 n, .str s, x]] => some (L okL x /\ L2 L zj4 N (mkV L k n s x), .bool (L not (L zda (mkV L k n s x))))
 | _ => none)
def yvs (N : Nat) (L : za9) : zbn := (116, fun xs => match xs with
 | [x, .fn 84 [] []] => some (L okL x /\ L2 L zt8 N (L rdL x), .int .i64 (L yjg (L rdL x)))
 | _ => none)
def cf_s (N : Nat) (L : za9) : zbn := (83, fun xs => match xs with
 | [x, .fn 84 [] []] => some (L okL x /\ L2 L zt8 N (L rdL x), .bool (L not (L zbl (L rdL x))))
 | _ => none)
def zos (N : Nat) (L : za9) : zbn := (52, fun xs => match xs with
 | [.agg [.int .i64 k, .int .u64 n, .str s, x]] => some (L okL x /\ L2 L zj4 N (mkV L k n s x), .bool (L zda (mkV L k n s x)))
 | _ => none)
theorem yxg (l : List CV) : ieq ((lenL l : Nat) : Int) 0 = l.isEmpty := by
 cases l with
 | nil => rfl
 | cons v l =>
   simp [lenL, ieq]
   omega
theorem ytk (a b : Int) : (ile a b = false) = ¬ a <= b := by simp [ile]
theorem b1_of {N : Nat} (ih : zay Tryz.prog (zos N std)) : zay Tryz.prog (yvy N std) := by
 intro xs p r h hp
 unfold yvy at h
 simp only at h
 split at h
 rotate_left
 · cases h
 rename_i k n s x
 cases h
 obtain ⟨ho, hz⟩ := hp
 refine ylz ho ?_
 rw [show mkV std k n s x = .mk k n s (rdL x) from rfl] at hz |-
 generalize rdL x = l at hz |-
 have hz : zj4 N (.mk k n s l) := hz
 refine za8 (xs := fun L => [.agg [.int .i64 k, .int .u64 n, .str s, cvL L l]]) (T := tt) (S := fun L => zai [zos N L]) (lo := noA) (lb := noA) 5 (fn := Tryz.f84) rfl rfl (by kernel_rfl) (by kernel_rfl) rfl zaa (za1 ⟨ih, trivial⟩) (by kernel_rfl) ?_
 intro L P' Q' hL hP hQ
 (cbv; try simp only [syT, true_and, and_true])
 (subst hL; subst hQ; simp only [L2, L3, std] at *; try simp only [syS, reduceCtorEq, Int.reduceToNat, Int.reduceAdd, Int.reduceSub] at *)
 rw [rdl, mkl]
 exact ⟨⟨okl l, hz⟩, rfl⟩
def ifA (L : za9) (l : List CV) : Nat -> St -> Option Ann := fun id s => match id with
 | 0 => some ⟨Nat, fun i => [(8, .int .i64 (L zbu i))], fun i => [], [0, 1, 6, 7], [],
     fun i => L2 L ylw l i, fun i => L2 L (fun (l : List CV) (i : Nat) => l.length - i) l i⟩
 | _ => none
theorem yxu {N : Nat} (ih : zay Tryz.prog (yvy N std)) : zay Tryz.prog (yvs N std) := by
 intro xs p r h hp
 unfold yvs at h
 simp only at h
 split at h
 rotate_left
 · cases h
 rename_i x
 cases h
 obtain ⟨ho, hz⟩ := hp
 refine yvz ho ?_
 have hz : zt8 N (rdL x) := hz
 show za7 _ _ _ (.int .i64 (yjg (rdL x)))
 generalize rdL x = l at hz |-
 refine za8 (T := tt) (S := fun L => zai [yvy N L]) (lo := fun L => ifA L l) (lb := noA) 5 (fn := Tryz.f116) (xs := fun L => [cvL L l, .fn 84 [] []]) rfl rfl (by kernel_rfl) (by kernel_rfl) rfl zaa
   (za1 ⟨ih, trivial⟩) (by kernel_rfl) ?_
 intro L P' Q' hL hP hQ
 (cbv; try simp only [syT, true_and, and_true])
 refine ⟨⟨0, ?_⟩, fun i hi => ?_⟩
 · (cbv; try simp only [syT, true_and, and_true])
   (subst hL; subst hQ; simp only [L2, L3, std] at *; try simp only [syS, reduceCtorEq, Int.reduceToNat, Int.reduceAdd, Int.reduceSub] at *)
   exact ⟨Nat.zero_le _, fun j hj => by omega⟩
 · cbv at hi
   (cbv; try simp only [syT, true_and, and_true])
   refine ⟨fun hlt => ⟨?_, ⟨?_, ?_⟩, fun hb => ?_, fun hb => ⟨i + 1, ?_⟩⟩, fun hge => ?_⟩
   · (subst hL; subst hQ; simp only [L2, L3, std] at *; try simp only [syS, reduceCtorEq, Int.reduceToNat, Int.reduceAdd, Int.reduceSub] at *)
     omega
   · (subst hL; subst hQ; simp only [L2, L3, std] at *; try simp only [syS, reduceCtorEq, Int.reduceToNat, Int.reduceAdd, Int.reduceSub] at *)
     exact (zfb _).2
   · (subst hL; subst hQ; simp only [L2, L3, std] at *; try simp only [syS, reduceCtorEq, Int.reduceToNat, Int.reduceAdd, Int.reduceSub] at *)
     rw [zbm]
     exact zfh hz (by have : lenL l = l.length := rfl; omega)
   · (subst hL; subst hQ; simp only [L2, L3, std] at *; try simp only [syS, reduceCtorEq, Int.reduceToNat, Int.reduceAdd, Int.reduceSub] at *)
     rw [zad] at hb
     exact (yox (by have : lenL l = l.length := rfl; omega) hi.2 hb).symm
   · (cbv; try simp only [syT, true_and, and_true])
     (subst hL; subst hQ; simp only [L2, L3, std] at *; try simp only [syS, reduceCtorEq, Int.reduceToNat, Int.reduceAdd, Int.reduceSub] at *)
     rw [zad] at hb
     have : lenL l = l.length := rfl
     have := ze3 l
     have h1 := hz.1
     have h2 := hz.2
     refine ⟨by omega, ⟨by omega, fun j hj => ?_⟩, by omega⟩
     by_cases e : j = i
     · rw [e]; exact hb
     · exact hi.2 j (by omega)
   · (subst hL; subst hQ; simp only [L2, L3, std] at *; try simp only [syS, reduceCtorEq, Int.reduceToNat, Int.reduceAdd, Int.reduceSub] at *)
     have : lenL l = l.length := rfl
     exact (yjf fun j hj => hi.2 j (by omega)).symm
theorem cf_of {N : Nat} (ih : zay Tryz.prog (yvs N std)) : zay Tryz.prog (cf_s N std) := by
 intro xs p r h hp
 unfold cf_s at h
 simp only at h
 split at h
 rotate_left
 · cases h
 rename_i x
 cases h
 obtain ⟨ho, hz⟩ := hp
 refine yvz ho ?_
 have hz : zt8 N (rdL x) := hz
 show za7 _ _ _ (.bool (not (zbl (rdL x))))
 generalize rdL x = l at hz |-
 refine za8 (xs := fun L => [cvL L l, .fn 84 [] []]) (T := tt) (S := fun L => zai [yvs N L]) (lo := noA) (lb := noA) 5 (fn := Tryz.f83) rfl rfl (by kernel_rfl) (by kernel_rfl) rfl zaa (za1 ⟨ih, trivial⟩) (by kernel_rfl) ?_
 intro L P' Q' hL hP hQ
 (cbv; try simp only [syT, true_and, and_true])
 (subst hL; subst hQ; simp only [L2, L3, std] at *; try simp only [syS, reduceCtorEq, Int.reduceToNat, Int.reduceAdd, Int.reduceSub] at *)
 rw [rdl]
 refine ⟨⟨okl l, hz⟩, ?_⟩
 have := yow l
 cases hb : zbl l with
 | true =>
   rw [hb] at this
   simp only [Bool.true_eq_false, eq_iff_iff, iff_false] at this
   have h : ile 0 (yjg l) = false := by rw [ytk]; exact this
   rw [h]; rfl
 | false =>
   rw [hb] at this
   simp only [eq_iff_iff, iff_true] at this
   simpa [ile] using this
theorem ygb : ∀ N, zay Tryz.prog (zos N std) := by
 intro N
 induction N with
 | zero =>
   intro xs p r h hp
   unfold zos at h
   simp only at h
   split at h
   · rename_i k n s x
     cases h
     have h1 : sizeC (mkV std k n s x) <= 0 := hp.2.1
     have := zdb (mkV std k n s x)
     omega
   · cases h
 | succ N ih =>
   intro xs p r h hp
   unfold zos at h
   simp only at h
   split at h
   rotate_left
   · cases h
   rename_i k n s x
   cases h
   obtain ⟨ho, hz⟩ := hp
   refine ylz ho ?_
   rw [show mkV std k n s x = .mk k n s (rdL x) from rfl] at hz |-
   generalize rdL x = l at hz |-
   have hz : zj4 (N + 1) (.mk k n s l) := hz
   refine za8 (T := tt) (S := fun L => zai [cf_s N L]) (lo := noA) (lb := noA) 5 (fn := Tryz.f52) (xs := fun L => [.agg [.int .i64 k, .int .u64 n, .str s, cvL L l]]) rfl rfl (by kernel_rfl) (by kernel_rfl) rfl zaa
     (za1 ⟨cf_of (yxu (b1_of ih)), trivial⟩) (by kernel_rfl) ?_
   intro L P' Q' hL hP hQ
   (cbv; try simp only [syT, true_and, and_true])
   (subst hL; subst hQ; simp only [L2, L3, std] at *; try simp only [syS, reduceCtorEq, Int.reduceToNat, Int.reduceAdd, Int.reduceSub] at *)
   simp only [rdl, yxg]
   rw [zac] at hz
   rw [zda]
   by_cases h1 : k = 1
   · simp [h1]
     exact ⟨fun a _ => a, fun a b => absurd b a⟩
   · by_cases h2 : k = 2
     · simp [h2]
       exact ⟨fun a _ => a, fun a b => absurd b a⟩
     · by_cases h3 : k = 3
       · simp [h3]
         refine ⟨fun h4 => ⟨fun h5 => ⟨⟨okl l, hz.1⟩, by simp [h4, h5]⟩, fun h5 => by simp [h5]⟩, fun h4 => by simp [h4]⟩
       · simp [h1, h2, h3]
def ysh (L : za9) (l : List CV) : Nat -> St -> Option Ann := fun id s => match id with
 | 0 => some ⟨Nat, fun i => [(47, .int .i64 (L zbu i))], fun i => [], [45, 46], [],
     fun i => L2 L ylw l i, fun i => L2 L (fun (l : List CV) (i : Nat) => l.length - i) l i⟩
 | _ => none
def zmj (N : Nat) (L : za9) : zbn := (68, fun xs => match xs with
 | [.agg [.int .i64 k, .int .u64 n, .str s, x]] => some (L okL x /\ L2 L zj4 N (mkV L k n s x), .bool (L zda (mkV L k n s x)))
 | _ => none)
theorem zdk (k n : Int) (s : List UInt8) (l : List CV) : zda (.mk k n s l) = true ↔ 1 <= k /\ k <= 3 /\ (k ≠ 1 -> n = 0) /\ (k ≠ 2 -> s = []) /\ (k ≠ 3 -> l = []) /\ zbl l = true := by
 have hl : l = [] -> zbl l = true := by rintro rfl; rw [zbl]
 rw [zda]
 by_cases h1 : k = 1
 · simp [h1]
   exact fun _ h => hl h
 · by_cases h2 : k = 2
   · simp [h2]
     exact fun _ h => hl h
   · by_cases h3 : k = 3
     · simp [h3, and_assoc]
     · simp [h1, h2, h3]
       intros; omega
theorem zc2 {k n : Int} {s : List UInt8} {l : List CV} (h : ¬ (1 <= k /\ k <= 3 /\ (k ≠ 1 -> n = 0) /\ (k ≠ 2 -> s = []) /\ (k ≠ 3 -> l = []) /\ zbl l = true)) : zda (.mk k n s l) = false := by
 cases e : zda (.mk k n s l) with
 | false => rfl
 | true => exact absurd ((zdk _ _ _ _).1 e) h
theorem zyg : ∀ N, zay Tryz.prog (zmj N std) := by
 intro N
 induction N with
 | zero =>
   intro xs p r h hp
   unfold zmj at h
   simp only at h
   split at h
   · rename_i k n s x
     cases h
     have h1 : sizeC (mkV std k n s x) <= 0 := hp.2.1
     have := zdb (mkV std k n s x)
     omega
   · cases h
 | succ N ih =>
   intro xs p r h hp
   unfold zmj at h
   simp only at h
   split at h
   rotate_left
   · cases h
   rename_i k n s x
   cases h
   obtain ⟨ho, hz⟩ := hp
   refine ylz ho ?_
   rw [show mkV std k n s x = .mk k n s (rdL x) from rfl] at hz |-
   generalize rdL x = l at hz |-
   have hz : zj4 (N + 1) (.mk k n s l) := hz
   refine za8 (T := tt) (S := fun L => zai [zmj N L]) (lo := fun L => ysh L l) (lb := noA) 5 (fn := Tryz.f68) (xs := fun L => [.agg [.int .i64 k, .int .u64 n, .str s, cvL L l]]) rfl rfl (by kernel_rfl) (by kernel_rfl) rfl zaa
     (za1 ⟨ih, trivial⟩) (by kernel_rfl) ?_
   intro L P' Q' hL hP hQ
   (cbv; try simp only [syT, true_and, and_true])
   refine ⟨fun h1 => ?_, fun h1 => ⟨fun h2 => ?_, fun h2 => ⟨fun h7 => ⟨fun h8 => ?_, fun h8 => ?_⟩, fun h7 => ?_⟩⟩⟩
   · (subst hL; subst hQ; simp only [L2, L3, std] at *; try simp only [syS, reduceCtorEq, Int.reduceToNat, Int.reduceAdd, Int.reduceSub] at *)
     rw [zc2 fun h => by omega]
   · (subst hL; subst hQ; simp only [L2, L3, std] at *; try simp only [syS, reduceCtorEq, Int.reduceToNat, Int.reduceAdd, Int.reduceSub] at *)
     rw [zc2 fun h => by omega]
   · (subst hL; subst hQ; simp only [L2, L3, std] at *; try simp only [syS, reduceCtorEq, Int.reduceToNat, Int.reduceAdd, Int.reduceSub] at *)
     rw [zc2 fun h => h8 (h.2.2.1 h7)]
   · refine ⟨fun h3 => ⟨fun h4 => ?_, fun h4 => ?_⟩, fun h3 => ?_⟩
     · (subst hL; subst hQ; simp only [L2, L3, std] at *; try simp only [syS, reduceCtorEq, Int.reduceToNat, Int.reduceAdd, Int.reduceSub] at *)
       rw [zc2 fun h => h4 (h.2.2.2.1 h3)]
     · refine ⟨fun h5 => ⟨fun h6 => ?_, fun h6 => ?_⟩, fun h5 => ?_⟩
       · (subst hL; subst hQ; simp only [L2, L3, std] at *; try simp only [syS, reduceCtorEq, Int.reduceToNat, Int.reduceAdd, Int.reduceSub] at *)
         rw [zc2 fun h => by
           have := h.2.2.2.2.1 h5
           rw [this] at h6
           exact absurd h6 (by simp [lenL])]
       · refine ⟨⟨0, ?_⟩, fun i hi => ?_⟩
         · (cbv; try simp only [syT, true_and, and_true])
           (subst hL; subst hQ; simp only [L2, L3, std] at *; try simp only [syS, reduceCtorEq, Int.reduceToNat, Int.reduceAdd, Int.reduceSub] at *)
           exact ⟨Nat.zero_le _, fun j hj => by omega⟩
         · cbv at hi
           (cbv; try simp only [syT, true_and, and_true])
           refine ⟨fun hlt => ⟨?_, ⟨?_, ?_⟩, fun hb => ?_, fun hb => ⟨i + 1, ?_⟩⟩, fun hge => ?_⟩
           · (subst hL; subst hQ; simp only [L2, L3, std] at *; try simp only [syS, reduceCtorEq, Int.reduceToNat, Int.reduceAdd, Int.reduceSub] at *)
             omega
           · (subst hL; subst hQ; simp only [L2, L3, std] at *; try simp only [syS, reduceCtorEq, Int.reduceToNat, Int.reduceAdd, Int.reduceSub] at *)
             exact (zfb _).2
           · (subst hL; subst hQ; simp only [L2, L3, std] at *; try simp only [syS, reduceCtorEq, Int.reduceToNat, Int.reduceAdd, Int.reduceSub] at *)
             rw [zbm]
             rw [zac] at hz
             exact zfh hz.1 (by have : lenL l = l.length := rfl; omega)
           · (subst hL; subst hQ; simp only [L2, L3, std] at *; try simp only [syS, reduceCtorEq, Int.reduceToNat, Int.reduceAdd, Int.reduceSub] at *)
             rw [zad] at hb
             have : lenL l = l.length := rfl
             rw [zc2 fun h => by
               have := (zar l).1 h.2.2.2.2.2 i (by omega)
               rw [hb] at this; cases this]
           · (cbv; try simp only [syT, true_and, and_true])
             (subst hL; subst hQ; simp only [L2, L3, std] at *; try simp only [syS, reduceCtorEq, Int.reduceToNat, Int.reduceAdd, Int.reduceSub] at *)
             rw [zad] at hb
             rw [zac] at hz
             have : lenL l = l.length := rfl
             have := ze3 l
             have h1 := hz.1.1
             have h2 := hz.1.2
             refine ⟨by omega, ⟨by omega, fun j hj => ?_⟩, by omega⟩
             by_cases e : j = i
             · rw [e]; exact hb
             · exact hi.2 j (by omega)
           · (subst hL; subst hQ; simp only [L2, L3, std] at *; try simp only [syS, reduceCtorEq, Int.reduceToNat, Int.reduceAdd, Int.reduceSub] at *)
             have : lenL l = l.length := rfl
             rw [(zdk _ _ _ _).2 ⟨by omega, by omega, fun h => by first | assumption | omega, fun h => by first | assumption | omega, fun h => by first | omega | exact List.eq_nil_of_length_eq_zero (by omega), (zar l).2 fun j hj => hi.2 j (by omega)⟩]
       · refine ⟨⟨0, ?_⟩, fun i hi => ?_⟩
         · (cbv; try simp only [syT, true_and, and_true])
           (subst hL; subst hQ; simp only [L2, L3, std] at *; try simp only [syS, reduceCtorEq, Int.reduceToNat, Int.reduceAdd, Int.reduceSub] at *)
           exact ⟨Nat.zero_le _, fun j hj => by omega⟩
         · cbv at hi
           (cbv; try simp only [syT, true_and, and_true])
           refine ⟨fun hlt => ⟨?_, ⟨?_, ?_⟩, fun hb => ?_, fun hb => ⟨i + 1, ?_⟩⟩, fun hge => ?_⟩
           · (subst hL; subst hQ; simp only [L2, L3, std] at *; try simp only [syS, reduceCtorEq, Int.reduceToNat, Int.reduceAdd, Int.reduceSub] at *)
             omega
           · (subst hL; subst hQ; simp only [L2, L3, std] at *; try simp only [syS, reduceCtorEq, Int.reduceToNat, Int.reduceAdd, Int.reduceSub] at *)
             exact (zfb _).2
           · (subst hL; subst hQ; simp only [L2, L3, std] at *; try simp only [syS, reduceCtorEq, Int.reduceToNat, Int.reduceAdd, Int.reduceSub] at *)
             rw [zbm]
             rw [zac] at hz
             exact zfh hz.1 (by have : lenL l = l.length := rfl; omega)
           · (subst hL; subst hQ; simp only [L2, L3, std] at *; try simp only [syS, reduceCtorEq, Int.reduceToNat, Int.reduceAdd, Int.reduceSub] at *)
             rw [zad] at hb
             have : lenL l = l.length := rfl
             rw [zc2 fun h => by
               have := (zar l).1 h.2.2.2.2.2 i (by omega)
               rw [hb] at this; cases this]
           · (cbv; try simp only [syT, true_and, and_true])
             (subst hL; subst hQ; simp only [L2, L3, std] at *; try simp only [syS, reduceCtorEq, Int.reduceToNat, Int.reduceAdd, Int.reduceSub] at *)
             rw [zad] at hb
             rw [zac] at hz
             have : lenL l = l.length := rfl
             have := ze3 l
             have h1 := hz.1.1
             have h2 := hz.1.2
             refine ⟨by omega, ⟨by omega, fun j hj => ?_⟩, by omega⟩
             by_cases e : j = i
             · rw [e]; exact hb
             · exact hi.2 j (by omega)
           · (subst hL; subst hQ; simp only [L2, L3, std] at *; try simp only [syS, reduceCtorEq, Int.reduceToNat, Int.reduceAdd, Int.reduceSub] at *)
             have : lenL l = l.length := rfl
             rw [(zdk _ _ _ _).2 ⟨by omega, by omega, fun h => by first | assumption | omega, fun h => by first | assumption | omega, fun h => by first | omega | exact List.eq_nil_of_length_eq_zero (by omega), (zar l).2 fun j hj => hi.2 j (by omega)⟩]
     · refine ⟨fun h5 => ⟨fun h6 => ?_, fun h6 => ?_⟩, fun h5 => ?_⟩
       · (subst hL; subst hQ; simp only [L2, L3, std] at *; try simp only [syS, reduceCtorEq, Int.reduceToNat, Int.reduceAdd, Int.reduceSub] at *)
         rw [zc2 fun h => by
           have := h.2.2.2.2.1 h5
           rw [this] at h6
           exact absurd h6 (by simp [lenL])]
       · refine ⟨⟨0, ?_⟩, fun i hi => ?_⟩
         · (cbv; try simp only [syT, true_and, and_true])
           (subst hL; subst hQ; simp only [L2, L3, std] at *; try simp only [syS, reduceCtorEq, Int.reduceToNat, Int.reduceAdd, Int.reduceSub] at *)
           exact ⟨Nat.zero_le _, fun j hj => by omega⟩
         · cbv at hi
           (cbv; try simp only [syT, true_and, and_true])
           refine ⟨fun hlt => ⟨?_, ⟨?_, ?_⟩, fun hb => ?_, fun hb => ⟨i + 1, ?_⟩⟩, fun hge => ?_⟩
           · (subst hL; subst hQ; simp only [L2, L3, std] at *; try simp only [syS, reduceCtorEq, Int.reduceToNat, Int.reduceAdd, Int.reduceSub] at *)
             omega
           · (subst hL; subst hQ; simp only [L2, L3, std] at *; try simp only [syS, reduceCtorEq, Int.reduceToNat, Int.reduceAdd, Int.reduceSub] at *)
             exact (zfb _).2
           · (subst hL; subst hQ; simp only [L2, L3, std] at *; try simp only [syS, reduceCtorEq, Int.reduceToNat, Int.reduceAdd, Int.reduceSub] at *)
             rw [zbm]
             rw [zac] at hz
             exact zfh hz.1 (by have : lenL l = l.length := rfl; omega)
           · (subst hL; subst hQ; simp only [L2, L3, std] at *; try simp only [syS, reduceCtorEq, Int.reduceToNat, Int.reduceAdd, Int.reduceSub] at *)
             rw [zad] at hb
             have : lenL l = l.length := rfl
             rw [zc2 fun h => by
               have := (zar l).1 h.2.2.2.2.2 i (by omega)
               rw [hb] at this; cases this]
           · (cbv; try simp only [syT, true_and, and_true])
             (subst hL; subst hQ; simp only [L2, L3, std] at *; try simp only [syS, reduceCtorEq, Int.reduceToNat, Int.reduceAdd, Int.reduceSub] at *)
             rw [zad] at hb
             rw [zac] at hz
             have : lenL l = l.length := rfl
             have := ze3 l
             have h1 := hz.1.1
             have h2 := hz.1.2
             refine ⟨by omega, ⟨by omega, fun j hj => ?_⟩, by omega⟩
             by_cases e : j = i
             · rw [e]; exact hb
             · exact hi.2 j (by omega)
           · (subst hL; subst hQ; simp only [L2, L3, std] at *; try simp only [syS, reduceCtorEq, Int.reduceToNat, Int.reduceAdd, Int.reduceSub] at *)
             have : lenL l = l.length := rfl
             rw [(zdk _ _ _ _).2 ⟨by omega, by omega, fun h => by first | assumption | omega, fun h => by first | assumption | omega, fun h => by first | omega | exact List.eq_nil_of_length_eq_zero (by omega), (zar l).2 fun j hj => hi.2 j (by omega)⟩]
       · refine ⟨⟨0, ?_⟩, fun i hi => ?_⟩
         · (cbv; try simp only [syT, true_and, and_true])
           (subst hL; subst hQ; simp only [L2, L3, std] at *; try simp only [syS, reduceCtorEq, Int.reduceToNat, Int.reduceAdd, Int.reduceSub] at *)
           exact ⟨Nat.zero_le _, fun j hj => by omega⟩
         · cbv at hi
           (cbv; try simp only [syT, true_and, and_true])
           refine ⟨fun hlt => ⟨?_, ⟨?_, ?_⟩, fun hb => ?_, fun hb => ⟨i + 1, ?_⟩⟩, fun hge => ?_⟩
           · (subst hL; subst hQ; simp only [L2, L3, std] at *; try simp only [syS, reduceCtorEq, Int.reduceToNat, Int.reduceAdd, Int.reduceSub] at *)
             omega
           · (subst hL; subst hQ; simp only [L2, L3, std] at *; try simp only [syS, reduceCtorEq, Int.reduceToNat, Int.reduceAdd, Int.reduceSub] at *)
             exact (zfb _).2
           · (subst hL; subst hQ; simp only [L2, L3, std] at *; try simp only [syS, reduceCtorEq, Int.reduceToNat, Int.reduceAdd, Int.reduceSub] at *)
             rw [zbm]
             rw [zac] at hz
             exact zfh hz.1 (by have : lenL l = l.length := rfl; omega)
           · (subst hL; subst hQ; simp only [L2, L3, std] at *; try simp only [syS, reduceCtorEq, Int.reduceToNat, Int.reduceAdd, Int.reduceSub] at *)
             rw [zad] at hb
             have : lenL l = l.length := rfl
             rw [zc2 fun h => by
               have := (zar l).1 h.2.2.2.2.2 i (by omega)
               rw [hb] at this; cases this]
           · (cbv; try simp only [syT, true_and, and_true])
             (subst hL; subst hQ; simp only [L2, L3, std] at *; try simp only [syS, reduceCtorEq, Int.reduceToNat, Int.reduceAdd, Int.reduceSub] at *)
             rw [zad] at hb
             rw [zac] at hz
             have : lenL l = l.length := rfl
             have := ze3 l
             have h1 := hz.1.1
             have h2 := hz.1.2
             refine ⟨by omega, ⟨by omega, fun j hj => ?_⟩, by omega⟩
             by_cases e : j = i
             · rw [e]; exact hb
             · exact hi.2 j (by omega)
           · (subst hL; subst hQ; simp only [L2, L3, std] at *; try simp only [syS, reduceCtorEq, Int.reduceToNat, Int.reduceAdd, Int.reduceSub] at *)
             have : lenL l = l.length := rfl
             rw [(zdk _ _ _ _).2 ⟨by omega, by omega, fun h => by first | assumption | omega, fun h => by first | assumption | omega, fun h => by first | omega | exact List.eq_nil_of_length_eq_zero (by omega), (zar l).2 fun j hj => hi.2 j (by omega)⟩]
   · refine ⟨fun h3 => ⟨fun h4 => ?_, fun h4 => ?_⟩, fun h3 => ?_⟩
     · (subst hL; subst hQ; simp only [L2, L3, std] at *; try simp only [syS, reduceCtorEq, Int.reduceToNat, Int.reduceAdd, Int.reduceSub] at *)
       rw [zc2 fun h => h4 (h.2.2.2.1 h3)]
     · refine ⟨fun h5 => ⟨fun h6 => ?_, fun h6 => ?_⟩, fun h5 => ?_⟩
       · (subst hL; subst hQ; simp only [L2, L3, std] at *; try simp only [syS, reduceCtorEq, Int.reduceToNat, Int.reduceAdd, Int.reduceSub] at *)
         rw [zc2 fun h => by
           have := h.2.2.2.2.1 h5
           rw [this] at h6
           exact absurd h6 (by simp [lenL])]
       · refine ⟨⟨0, ?_⟩, fun i hi => ?_⟩
         · (cbv; try simp only [syT, true_and, and_true])
           (subst hL; subst hQ; simp only [L2, L3, std] at *; try simp only [syS, reduceCtorEq, Int.reduceToNat, Int.reduceAdd, Int.reduceSub] at *)
           exact ⟨Nat.zero_le _, fun j hj => by omega⟩
         · cbv at hi
           (cbv; try simp only [syT, true_and, and_true])
           refine ⟨fun hlt => ⟨?_, ⟨?_, ?_⟩, fun hb => ?_, fun hb => ⟨i + 1, ?_⟩⟩, fun hge => ?_⟩
           · (subst hL; subst hQ; simp only [L2, L3, std] at *; try simp only [syS, reduceCtorEq, Int.reduceToNat, Int.reduceAdd, Int.reduceSub] at *)
             omega
           · (subst hL; subst hQ; simp only [L2, L3, std] at *; try simp only [syS, reduceCtorEq, Int.reduceToNat, Int.reduceAdd, Int.reduceSub] at *)
             exact (zfb _).2
           · (subst hL; subst hQ; simp only [L2, L3, std] at *; try simp only [syS, reduceCtorEq, Int.reduceToNat, Int.reduceAdd, Int.reduceSub] at *)
             rw [zbm]
             rw [zac] at hz
             exact zfh hz.1 (by have : lenL l = l.length := rfl; omega)
           · (subst hL; subst hQ; simp only [L2, L3, std] at *; try simp only [syS, reduceCtorEq, Int.reduceToNat, Int.reduceAdd, Int.reduceSub] at *)
             rw [zad] at hb
             have : lenL l = l.length := rfl
             rw [zc2 fun h => by
               have := (zar l).1 h.2.2.2.2.2 i (by omega)
               rw [hb] at this; cases this]
           · (cbv; try simp only [syT, true_and, and_true])
             (subst hL; subst hQ; simp only [L2, L3, std] at *; try simp only [syS, reduceCtorEq, Int.reduceToNat, Int.reduceAdd, Int.reduceSub] at *)
             rw [zad] at hb
             rw [zac] at hz
             have : lenL l = l.length := rfl
             have := ze3 l
             have h1 := hz.1.1
             have h2 := hz.1.2
             refine ⟨by omega, ⟨by omega, fun j hj => ?_⟩, by omega⟩
             by_cases e : j = i
             · rw [e]; exact hb
             · exact hi.2 j (by omega)
           · (subst hL; subst hQ; simp only [L2, L3, std] at *; try simp only [syS, reduceCtorEq, Int.reduceToNat, Int.reduceAdd, Int.reduceSub] at *)
             have : lenL l = l.length := rfl
             rw [(zdk _ _ _ _).2 ⟨by omega, by omega, fun h => by first | assumption | omega, fun h => by first | assumption | omega, fun h => by first | omega | exact List.eq_nil_of_length_eq_zero (by omega), (zar l).2 fun j hj => hi.2 j (by omega)⟩]
       · refine ⟨⟨0, ?_⟩, fun i hi => ?_⟩
         · (cbv; try simp only [syT, true_and, and_true])
           (subst hL; subst hQ; simp only [L2, L3, std] at *; try simp only [syS, reduceCtorEq, Int.reduceToNat, Int.reduceAdd, Int.reduceSub] at *)
           exact ⟨Nat.zero_le _, fun j hj => by omega⟩
         · cbv at hi
           (cbv; try simp only [syT, true_and, and_true])
           refine ⟨fun hlt => ⟨?_, ⟨?_, ?_⟩, fun hb => ?_, fun hb => ⟨i + 1, ?_⟩⟩, fun hge => ?_⟩
           · (subst hL; subst hQ; simp only [L2, L3, std] at *; try simp only [syS, reduceCtorEq, Int.reduceToNat, Int.reduceAdd, Int.reduceSub] at *)
             omega
           · (subst hL; subst hQ; simp only [L2, L3, std] at *; try simp only [syS, reduceCtorEq, Int.reduceToNat, Int.reduceAdd, Int.reduceSub] at *)
             exact (zfb _).2
           · (subst hL; subst hQ; simp only [L2, L3, std] at *; try simp only [syS, reduceCtorEq, Int.reduceToNat, Int.reduceAdd, Int.reduceSub] at *)
             rw [zbm]
             rw [zac] at hz
             exact zfh hz.1 (by have : lenL l = l.length := rfl; omega)
           · (subst hL; subst hQ; simp only [L2, L3, std] at *; try simp only [syS, reduceCtorEq, Int.reduceToNat, Int.reduceAdd, Int.reduceSub] at *)
             rw [zad] at hb
             have : lenL l = l.length := rfl
             rw [zc2 fun h => by
               have := (zar l).1 h.2.2.2.2.2 i (by omega)
               rw [hb] at this; cases this]
           · (cbv; try simp only [syT, true_and, and_true])
             (subst hL; subst hQ; simp only [L2, L3, std] at *; try simp only [syS, reduceCtorEq, Int.reduceToNat, Int.reduceAdd, Int.reduceSub] at *)
             rw [zad] at hb
             rw [zac] at hz
             have : lenL l = l.length := rfl
             have := ze3 l
             have h1 := hz.1.1
             have h2 := hz.1.2
             refine ⟨by omega, ⟨by omega, fun j hj => ?_⟩, by omega⟩
             by_cases e : j = i
             · rw [e]; exact hb
             · exact hi.2 j (by omega)
           · (subst hL; subst hQ; simp only [L2, L3, std] at *; try simp only [syS, reduceCtorEq, Int.reduceToNat, Int.reduceAdd, Int.reduceSub] at *)
             have : lenL l = l.length := rfl
             rw [(zdk _ _ _ _).2 ⟨by omega, by omega, fun h => by first | assumption | omega, fun h => by first | assumption | omega, fun h => by first | omega | exact List.eq_nil_of_length_eq_zero (by omega), (zar l).2 fun j hj => hi.2 j (by omega)⟩]
     · refine ⟨fun h5 => ⟨fun h6 => ?_, fun h6 => ?_⟩, fun h5 => ?_⟩
       · (subst hL; subst hQ; simp only [L2, L3, std] at *; try simp only [syS, reduceCtorEq, Int.reduceToNat, Int.reduceAdd, Int.reduceSub] at *)
         rw [zc2 fun h => by
           have := h.2.2.2.2.1 h5
           rw [this] at h6
           exact absurd h6 (by simp [lenL])]
       · refine ⟨⟨0, ?_⟩, fun i hi => ?_⟩
         · (cbv; try simp only [syT, true_and, and_true])
           (subst hL; subst hQ; simp only [L2, L3, std] at *; try simp only [syS, reduceCtorEq, Int.reduceToNat, Int.reduceAdd, Int.reduceSub] at *)
           exact ⟨Nat.zero_le _, fun j hj => by omega⟩
         · cbv at hi
           (cbv; try simp only [syT, true_and, and_true])
           refine ⟨fun hlt => ⟨?_, ⟨?_, ?_⟩, fun hb => ?_, fun hb => ⟨i + 1, ?_⟩⟩, fun hge => ?_⟩
           · (subst hL; subst hQ; simp only [L2, L3, std] at *; try simp only [syS, reduceCtorEq, Int.reduceToNat, Int.reduceAdd, Int.reduceSub] at *)
             omega
           · (subst hL; subst hQ; simp only [L2, L3, std] at *; try simp only [syS, reduceCtorEq, Int.reduceToNat, Int.reduceAdd, Int.reduceSub] at *)
             exact (zfb _).2
           · (subst hL; subst hQ; simp only [L2, L3, std] at *; try simp only [syS, reduceCtorEq, Int.reduceToNat, Int.reduceAdd, Int.reduceSub] at *)
             rw [zbm]
             rw [zac] at hz
             exact zfh hz.1 (by have : lenL l = l.length := rfl; omega)
           · (subst hL; subst hQ; simp only [L2, L3, std] at *; try simp only [syS, reduceCtorEq, Int.reduceToNat, Int.reduceAdd, Int.reduceSub] at *)
             rw [zad] at hb
             have : lenL l = l.length := rfl
             rw [zc2 fun h => by
               have := (zar l).1 h.2.2.2.2.2 i (by omega)
               rw [hb] at this; cases this]
           · (cbv; try simp only [syT, true_and, and_true])
             (subst hL; subst hQ; simp only [L2, L3, std] at *; try simp only [syS, reduceCtorEq, Int.reduceToNat, Int.reduceAdd, Int.reduceSub] at *)
             rw [zad] at hb
             rw [zac] at hz
             have : lenL l = l.length := rfl
             have := ze3 l
             have h1 := hz.1.1
             have h2 := hz.1.2
             refine ⟨by omega, ⟨by omega, fun j hj => ?_⟩, by omega⟩
             by_cases e : j = i
             · rw [e]; exact hb
             · exact hi.2 j (by omega)
           · (subst hL; subst hQ; simp only [L2, L3, std] at *; try simp only [syS, reduceCtorEq, Int.reduceToNat, Int.reduceAdd, Int.reduceSub] at *)
             have : lenL l = l.length := rfl
             rw [(zdk _ _ _ _).2 ⟨by omega, by omega, fun h => by first | assumption | omega, fun h => by first | assumption | omega, fun h => by first | omega | exact List.eq_nil_of_length_eq_zero (by omega), (zar l).2 fun j hj => hi.2 j (by omega)⟩]
       · refine ⟨⟨0, ?_⟩, fun i hi => ?_⟩
         · (cbv; try simp only [syT, true_and, and_true])
           (subst hL; subst hQ; simp only [L2, L3, std] at *; try simp only [syS, reduceCtorEq, Int.reduceToNat, Int.reduceAdd, Int.reduceSub] at *)
           exact ⟨Nat.zero_le _, fun j hj => by omega⟩
         · cbv at hi
           (cbv; try simp only [syT, true_and, and_true])
           refine ⟨fun hlt => ⟨?_, ⟨?_, ?_⟩, fun hb => ?_, fun hb => ⟨i + 1, ?_⟩⟩, fun hge => ?_⟩
           · (subst hL; subst hQ; simp only [L2, L3, std] at *; try simp only [syS, reduceCtorEq, Int.reduceToNat, Int.reduceAdd, Int.reduceSub] at *)
             omega
           · (subst hL; subst hQ; simp only [L2, L3, std] at *; try simp only [syS, reduceCtorEq, Int.reduceToNat, Int.reduceAdd, Int.reduceSub] at *)
             exact (zfb _).2
           · (subst hL; subst hQ; simp only [L2, L3, std] at *; try simp only [syS, reduceCtorEq, Int.reduceToNat, Int.reduceAdd, Int.reduceSub] at *)
             rw [zbm]
             rw [zac] at hz
             exact zfh hz.1 (by have : lenL l = l.length := rfl; omega)
           · (subst hL; subst hQ; simp only [L2, L3, std] at *; try simp only [syS, reduceCtorEq, Int.reduceToNat, Int.reduceAdd, Int.reduceSub] at *)
             rw [zad] at hb
             have : lenL l = l.length := rfl
             rw [zc2 fun h => by
               have := (zar l).1 h.2.2.2.2.2 i (by omega)
               rw [hb] at this; cases this]
           · (cbv; try simp only [syT, true_and, and_true])
             (subst hL; subst hQ; simp only [L2, L3, std] at *; try simp only [syS, reduceCtorEq, Int.reduceToNat, Int.reduceAdd, Int.reduceSub] at *)
             rw [zad] at hb
             rw [zac] at hz
             have : lenL l = l.length := rfl
             have := ze3 l
             have h1 := hz.1.1
             have h2 := hz.1.2
             refine ⟨by omega, ⟨by omega, fun j hj => ?_⟩, by omega⟩
             by_cases e : j = i
             · rw [e]; exact hb
             · exact hi.2 j (by omega)
           · (subst hL; subst hQ; simp only [L2, L3, std] at *; try simp only [syS, reduceCtorEq, Int.reduceToNat, Int.reduceAdd, Int.reduceSub] at *)
             have : lenL l = l.length := rfl
             rw [(zdk _ _ _ _).2 ⟨by omega, by omega, fun h => by first | assumption | omega, fun h => by first | assumption | omega, fun h => by first | omega | exact List.eq_nil_of_length_eq_zero (by omega), (zar l).2 fun j hj => hi.2 j (by omega)⟩]
theorem zo4 : ∀ (k n : Nat), n < 128 ^ (k + 1) -> (zdz n).length <= k + 1
 | 0, n, h => by rw [zbd (by omega)]; simp
 | k + 1, n, h => by
   by_cases h1 : n < 128
   · rw [zbd h1]; simp
   · rw [zeo (by omega), List.length_cons]
     have := zo4 k (n / 128) (by rw [Nat.div_lt_iff_lt_mul (by omega)]; rw [Nat.pow_succ] at h; exact h)
     omega
theorem zbx {n : Int} (h : zax n) : (zat n).length <= 10 := zo4 9 n.toNat (by
 have := h.2
 have := h.1
 rw [show (128 : Nat) ^ (9 + 1) = 1180591620717411303424 from by decide]
 omega)
theorem zhq (a : Int) : zc5 1 (fun i => (AV.int .u8 (zd3 [a] (0 + i))).toI) = [UInt8.ofNat a.toNat] := rfl
def ywh (n x : Int) (p : List UInt8) : Prop := zax x /\ p ++ zat x = zat n
def rshA (L : za9) (n : Int) : Nat -> St -> Option Ann := fun id s => match id with
 | 0 => some ⟨Int × List UInt8, fun x => [(0, .int .u64 x.1), (3, .str x.2)], fun i => [], [], [],
     fun x => L3 L ywh n x.1 x.2, fun x => L Int.toNat x.1⟩
 | _ => none
def zli (L : za9) : zbn := (107, fun xs => match xs with | [.int .u64 n] => some (L zax n, .str (L zat n)) | _ => none)
theorem zxo {x : Int} (h : zax x) (hx : 127 < x) : zat x = UInt8.ofNat (x % 128 + 128).toNat :: zat (x / 128) := by
 have := h.1
 unfold zat
 rw [zeo (by omega)]
 congr 1
 · congr 1; omega
 · congr 1; omega
theorem zky {x : Int} (h : zax x) (hx : x <= 127) : zat x = [UInt8.ofNat x.toNat] := by
 have := h.1
 unfold zat
 exact zbd (by omega)
theorem zme : zay Tryz.prog (zli std) := by
 intro xs p r h hp
 unfold zli at h
 simp only at h
 split at h
 rotate_left
 · cases h
 rename_i n
 cases h
 have hn : zax n := hp
 have hl := zbx hn
 refine za5 (T := tt) (S := noS) (lo := fun L => rshA L n) (lb := noA) 5 (fn := Tryz.f107) rfl rfl (by kernel_rfl) (by kernel_rfl) rfl zaa (zcc _) (by kernel_rfl) ?_
 intro L P' Q' hL hP hQ
 (cbv; try simp only [syT, true_and, and_true])
 refine ⟨⟨(n, []), ?_⟩, fun x hx => ?_⟩
 · (cbv; try simp only [syT, true_and, and_true])
   (subst hL; subst hQ; simp only [L2, L3, std] at *; try simp only [syS, reduceCtorEq, Int.reduceToNat, Int.reduceAdd, Int.reduceSub] at *)
   exact ⟨hn, rfl⟩
 · cbv at hx
   obtain ⟨x, pre⟩ := x
   (cbv; try simp only [syT, true_and, and_true])
   obtain ⟨x', hx'⟩ : ∃ x', x' = x / 128 := ⟨_, rfl⟩
   obtain ⟨p', hp'⟩ : ∃ p', p' = pre ++ [UInt8.ofNat (x % 128 + 128).toNat] := ⟨_, rfl⟩
   refine ⟨fun h => ⟨?_, ?_, ?_, ?_, ⟨(x', p'), ?_⟩⟩, fun h => ⟨?_, ?_, ?_⟩⟩
   · (subst hL; subst hQ; simp only [L2, L3, std] at *; try simp only [syS, reduceCtorEq, Int.reduceToNat, Int.reduceAdd, Int.reduceSub] at *)
     omega
   · (subst hL; subst hQ; simp only [L2, L3, std] at *; try simp only [syS, reduceCtorEq, Int.reduceToNat, Int.reduceAdd, Int.reduceSub] at *)
     exact ⟨Nat.le_refl _, fun i hi => ⟨_, rfl⟩⟩
   · (subst hL; subst hQ; simp only [L2, L3, std] at *; try simp only [syS, reduceCtorEq, Int.reduceToNat, Int.reduceAdd, Int.reduceSub] at *)
     rw [zhq]
     have := congrArg List.length hx.2
     rw [List.length_append] at this
     simp; omega
   · (subst hL; subst hQ; simp only [L2, L3, std] at *; try simp only [syS, reduceCtorEq, Int.reduceToNat, Int.reduceAdd, Int.reduceSub] at *)
     omega
   · (cbv; try simp only [syT, true_and, and_true])
     (subst hL; subst hQ; simp only [L2, L3, std] at *; try simp only [syS, reduceCtorEq, Int.reduceToNat, Int.reduceAdd, Int.reduceSub] at *)
     rw [zhq]
     have h0 := hx.1.1
     have h1 := hx.1.2
     have e1 : x.tmod 128 = x % 128 := Int.tmod_eq_emod_of_nonneg h0
     have e2 : x.tdiv 128 = x / 128 := Int.tdiv_eq_ediv_of_nonneg h0
     have e3 := hx.2
     rw [zxo hx.1 h] at e3
     refine ⟨?_, ?_, ⟨⟨by omega, by omega⟩, ?_⟩, by omega⟩
     · have e4 : (x % 128 + 128) % 18446744073709551616 % 256 = x % 128 + 128 := by omega
       rw [hp', e1, e4]
     · rw [yrh, ygt, e2, hx']
       exact Int.emod_eq_of_lt (by omega) (by omega)
     · rw [hp', hx', List.append_assoc]; exact e3
   · (subst hL; subst hQ; simp only [L2, L3, std] at *; try simp only [syS, reduceCtorEq, Int.reduceToNat, Int.reduceAdd, Int.reduceSub] at *)
     exact ⟨Nat.le_refl _, fun i hi => ⟨_, rfl⟩⟩
   · (subst hL; subst hQ; simp only [L2, L3, std] at *; try simp only [syS, reduceCtorEq, Int.reduceToNat, Int.reduceAdd, Int.reduceSub] at *)
     rw [zhq]
     have := congrArg List.length hx.2
     rw [List.length_append] at this
     have := (zky hx.1 h)
     simp; omega
   · (subst hL; subst hQ; simp only [L2, L3, std] at *; try simp only [syS, reduceCtorEq, Int.reduceToNat, Int.reduceAdd, Int.reduceSub] at *)
     rw [zhq, <- hx.2, zky hx.1 h]
     have h0 := hx.1.1
     congr 3; omega
mutual
def wfV : CV -> Prop
 | .mk _ n s l => zax n /\ s.length <= 9223372036854775807 /\ zkc l
def zkc : List CV -> Prop
 | [] => True
 | v :: l => wfV v /\ zkc l
end
theorem ykq : ∀ {l : List CV} {i : Nat}, zkc l -> i < l.length -> wfV (zbj l i)
 | [], i, _, h => by simp at h
 | v :: l, 0, w, _ => by rw [zkc] at w; exact w.1
 | v :: l, i + 1, w, h => by rw [zkc] at w; exact ykq (l := l) w.2 (by simpa using h)
theorem zht (l : List CV) : ∀ i, (zfw l i).length <= (zap l).length := by
 intro i
 have := zfx (l.take i) (l.drop i)
 rw [List.take_append_drop] at this
 rw [this, List.length_append, zfw]; omega
theorem zae (k n : Int) (s : List UInt8) (l : List CV) : zbe (.mk k n s l) = zf6 k ++ if k = 1 then zat n else if k = 2 then zat s.length ++ s else zat l.length ++ zap l := by rw [zbe]
def zp2 (v : CV) : Prop := wfV v /\ (zbe v).length <= 90000000
theorem zp0 {k n : Int} {s : List UInt8} {l : List CV} : zp2 (.mk k n s l) = ((zax n /\ s.length <= 9223372036854775807 /\ zkc l) /\ (zbe (.mk k n s l)).length <= 90000000) := by
 unfold zp2; rw [wfV]
theorem zfv {x : Int} (h : 0 <= x) (h1 : x < 18446744073709551616) : x % 18446744073709551616 = x := Int.emod_eq_of_lt h h1
theorem zh7 {k n : Int} {s : List UInt8} {l : List CV} (h : wfV (.mk k n s l)) : (s.length : Int) % 18446744073709551616 = s.length := by
 rw [wfV] at h
 exact zfv (by omega) (by omega)
theorem zhp {N : Nat} {k n : Int} {s : List UInt8} {l : List CV} (h : zj4 (N + 1) (.mk k n s l)) : zax ((l.length : Nat) : Int) := by
 rw [zac] at h
 have := ze3 l
 have h1 := h.1.1
 have h2 := h.1.2
 exact ⟨by omega, by omega⟩
theorem zgk {N : Nat} {k n : Int} {s : List UInt8} {l : List CV} (h : zj4 (N + 1) (.mk k n s l)) : ((lenL l : Nat) : Int) % 18446744073709551616 = ((l.length : Nat) : Int) := by
 have := zhp h
 exact zfv this.1 this.2
theorem yb2 {k n : Int} {s : List UInt8} {l : List CV} (h : zp2 (.mk k n s l)) (h1 : k ≠ 1) (h2 : k ≠ 2) {i : Nat} (hi : i < l.length) : zp2 (zbj l i) := by
 rw [zp0] at h
 refine ⟨ykq h.1.2.2 hi, ?_⟩
 have h3 := h.2
 have h4 := zd0 hi
 have h5 := zht l (i + 1)
 rw [h4, List.length_append] at h5
 rw [zae, if_neg h1, if_neg h2] at h3
 simp only [List.length_append] at h3
 omega
def zo7 (k : Int) (l : List CV) (i : Nat) : List UInt8 := zf6 k ++ zat l.length ++ zfw l i
def ys2 (L : za9) (k : Int) (l : List CV) : Nat -> St -> Option Ann := fun id s => match id with
 | 0 => some ⟨Nat, fun i => [(42, .int .i64 (L zbu i)), (3, .str (L3 L zo7 k l i))], fun i => [], [40, 41], [],
     fun i => L2 L (fun (l : List CV) i => i <= l.length) l i, fun i => L2 L (fun (l : List CV) (i : Nat) => l.length - i) l i⟩
 | _ => none
def zmc (N : Nat) (L : za9) : zbn := (70, fun xs => match xs with
 | [.agg [.int .i64 k, .int .u64 n, .str s, x]] => some (L okL x /\ L2 L zj4 N (mkV L k n s x) /\ L zp2 (mkV L k n s x), .str (L zbe (mkV L k n s x)))
 | _ => none)
theorem zy4 : ∀ N, zay Tryz.prog (zmc N std) := by
 intro N
 induction N with
 | zero =>
   intro xs p r h hp
   unfold zmc at h
   simp only at h
   split at h
   · rename_i k n s x
     cases h
     have h1 : sizeC (mkV std k n s x) <= 0 := hp.2.1.1
     have := zdb (mkV std k n s x)
     omega
   · cases h
 | succ N ih =>
   intro xs p r h hp
   unfold zmc at h
   simp only at h
   split at h
   rotate_left
   · cases h
   rename_i k n s x
   cases h
   obtain ⟨ho, hz, hw⟩ := hp
   refine ylz ho ?_
   rw [show mkV std k n s x = .mk k n s (rdL x) from rfl] at hz hw |-
   generalize rdL x = l at hz hw |-
   have hz : zj4 (N + 1) (.mk k n s l) := hz
   have hw : zp2 (.mk k n s l) := hw
   refine za8 (T := tt) (S := fun L => zai [zli L, zmc N L]) (lo := fun L => ys2 L k l) (lb := noA) 5 (fn := Tryz.f70) (xs := fun L => [.agg [.int .i64 k, .int .u64 n, .str s, cvL L l]]) rfl rfl (by kernel_rfl) (by kernel_rfl) rfl zaa
     (za1 ⟨zme, ih, trivial⟩) (by kernel_rfl) ?_
   intro L P' Q' hL hP hQ
   (cbv; try simp only [syT, true_and, and_true])
   refine ⟨?_, fun h1 => ⟨?_, ?_, ?_⟩, fun h1 => ⟨fun h2 => ⟨?_, ?_, ?_, ?_⟩, fun h2 => ⟨?_, ?_, ⟨0, ?_⟩, fun i hi => ?_⟩⟩⟩
   · (subst hL; subst hQ; simp only [L2, L3, std] at *; try simp only [syS, reduceCtorEq, Int.reduceToNat, Int.reduceAdd, Int.reduceSub] at *)
     exact ⟨Nat.le_refl _, fun i hi => ⟨_, rfl⟩⟩
   · (subst hL; subst hQ; simp only [L2, L3, std] at *; try simp only [syS, reduceCtorEq, Int.reduceToNat, Int.reduceAdd, Int.reduceSub] at *)
     rw [zp0] at hw
     exact hw.1.1
   · (subst hL; subst hQ; simp only [L2, L3, std] at *; try simp only [syS, reduceCtorEq, Int.reduceToNat, Int.reduceAdd, Int.reduceSub] at *)
     rw [zhq]
     rw [zp0] at hw
     have := zbx hw.1.1
     simp; omega
   · (subst hL; subst hQ; simp only [L2, L3, std] at *; try simp only [syS, reduceCtorEq, Int.reduceToNat, Int.reduceAdd, Int.reduceSub] at *)
     rw [zae, if_pos h1, zhq]; rfl
   · (subst hL; subst hQ; simp only [L2, L3, std] at *; try simp only [syS, reduceCtorEq, Int.reduceToNat, Int.reduceAdd, Int.reduceSub] at *)
     rw [zp0] at hw
     rw [zfv (by omega) (by omega)]
     exact ⟨by omega, by omega⟩
   · (subst hL; subst hQ; simp only [L2, L3, std] at *; try simp only [syS, reduceCtorEq, Int.reduceToNat, Int.reduceAdd, Int.reduceSub] at *)
     rw [zp0] at hw
     rw [zfv (by omega) (by omega), zhq]
     have := zbx (n := (s.length : Int)) ⟨by omega, by omega⟩
     simp; omega
   · (subst hL; subst hQ; simp only [L2, L3, std] at *; try simp only [syS, reduceCtorEq, Int.reduceToNat, Int.reduceAdd, Int.reduceSub] at *)
     rw [zh7 hw.1, zhq]
     have h3 := hw.2
     rw [zae, if_neg h1, if_pos h2] at h3
     simp at h3 |-
     omega
   · (subst hL; subst hQ; simp only [L2, L3, std] at *; try simp only [syS, reduceCtorEq, Int.reduceToNat, Int.reduceAdd, Int.reduceSub] at *)
     rw [zh7 hw.1, zhq, zae, if_neg h1, if_pos h2]
     show ([_] ++ _) ++ _ = _
     rw [List.append_assoc]; rfl
   · (subst hL; subst hQ; simp only [L2, L3, std] at *; try simp only [syS, reduceCtorEq, Int.reduceToNat, Int.reduceAdd, Int.reduceSub] at *)
     rw [zgk hz]
     exact zhp hz
   · (subst hL; subst hQ; simp only [L2, L3, std] at *; try simp only [syS, reduceCtorEq, Int.reduceToNat, Int.reduceAdd, Int.reduceSub] at *)
     rw [zgk hz, zhq]
     have := zbx (zhp hz)
     simp; omega
   · (cbv; try simp only [syT, true_and, and_true])
     (subst hL; subst hQ; simp only [L2, L3, std] at *; try simp only [syS, reduceCtorEq, Int.reduceToNat, Int.reduceAdd, Int.reduceSub] at *)
     rw [zgk hz, zhq]
     exact ⟨by rw [zo7, zfw, List.take_zero, zap, List.append_nil]; rfl, Nat.zero_le _⟩
   · cbv at hi
     (cbv; try simp only [syT, true_and, and_true])
     refine ⟨fun hlt => ⟨?_, ⟨?_, ?_, ?_⟩, ?_, ⟨i + 1, ?_⟩⟩, fun hge => ?_⟩
     · (subst hL; subst hQ; simp only [L2, L3, std] at *; try simp only [syS, reduceCtorEq, Int.reduceToNat, Int.reduceAdd, Int.reduceSub] at *)
       omega
     · (subst hL; subst hQ; simp only [L2, L3, std] at *; try simp only [syS, reduceCtorEq, Int.reduceToNat, Int.reduceAdd, Int.reduceSub] at *)
       exact (zfb _).2
     · (subst hL; subst hQ; simp only [L2, L3, std] at *; try simp only [syS, reduceCtorEq, Int.reduceToNat, Int.reduceAdd, Int.reduceSub] at *)
       rw [zbm]
       rw [zac] at hz
       exact zfh hz.1 (by have : lenL l = l.length := rfl; omega)
     · (subst hL; subst hQ; simp only [L2, L3, std] at *; try simp only [syS, reduceCtorEq, Int.reduceToNat, Int.reduceAdd, Int.reduceSub] at *)
       rw [zad]
       exact yb2 hw (by omega) (by omega) (by have : lenL l = l.length := rfl; omega)
     · (subst hL; subst hQ; simp only [L2, L3, std] at *; try simp only [syS, reduceCtorEq, Int.reduceToNat, Int.reduceAdd, Int.reduceSub] at *)
       rw [zad]
       have h3 := hw.2
       have h4 := zd0 (l := l) (i := i) (by have : lenL l = l.length := rfl; omega)
       have h5 := zht l (i + 1)
       rw [h4, List.length_append] at h5
       rw [zae, if_neg h1, if_neg h2] at h3
       simp only [List.length_append, zo7] at h3 |-
       omega
     · (cbv; try simp only [syT, true_and, and_true])
       (subst hL; subst hQ; simp only [L2, L3, std] at *; try simp only [syS, reduceCtorEq, Int.reduceToNat, Int.reduceAdd, Int.reduceSub] at *)
       have : lenL l = l.length := rfl
       have := ze3 l
       rw [zac] at hz
       have h4 := hz.1.1
       have h5 := hz.1.2
       rw [zad]
       exact ⟨by rw [zo7, zo7, zd0 (by omega)]; simp only [List.append_assoc], by omega, by omega, by omega⟩
     · (subst hL; subst hQ; simp only [L2, L3, std] at *; try simp only [syS, reduceCtorEq, Int.reduceToNat, Int.reduceAdd, Int.reduceSub] at *)
       have : lenL l = l.length := rfl
       have hil : i = l.length := by omega
       rw [zae, if_neg h1, if_neg h2, zo7, hil, zfw, List.take_length, List.append_assoc]
def zpj (b : List UInt8) (k : Int) (l : List CV) (i : Nat) : List UInt8 := b ++ zf6 k ++ zat l.length ++ zfw l i
def putA (L : za9) (b : List UInt8) (k : Int) (l : List CV) : Nat -> St -> Option Ann := fun id s => match id with
 | 1 => some ⟨Nat, fun i => [(23, .int .i64 (L zbu i))], fun i => [(500000, .box 141 [.ref 500000 0, .sl 901 1 0 (L lenN (L (L3 L zpj b k l) i))]), (901, .row 5 1 (L lenN (L (L3 L zpj b k l) i)) (fun j _ => .int .u8 (L2 L zca (L (L3 L zpj b k l) i) j)))], [0, 21, 22], [],
     fun i => L2 L (fun (l : List CV) i => i <= l.length) l i, fun i => L2 L (fun (l : List CV) (i : Nat) => l.length - i) l i⟩
 | _ => none
def zrd (N : Nat) (L : za9) : yaq := (54, fun raw ob => match raw with
 | [.ref id 0, .agg [.int .i64 k, .int .u64 n, .str s, x]] => match yg9 L ob id with
   | some none => some ⟨[.ref 500000 0, .agg [.int .i64 k, .int .u64 n, .str s, x]], yrc, L okL x /\ L2 L zj4 N (mkV L k n s x) /\ L zp2 (mkV L k n s x), .tup [], zvf L (L zbe (mkV L k n s x))⟩
   | some (some l) => some ⟨[.ref 500000 0, .agg [.int .i64 k, .int .u64 n, .str s, x]], bld L l, L okL x /\ L2 L zj4 N (mkV L k n s x) /\ L zp2 (mkV L k n s x) /\ L2 L zgn l (L zbe (mkV L k n s x)), .tup [], zvf L (L2 L zab l (L zbe (mkV L k n s x)))⟩
   | none => none
 | _ => none)
theorem ys3 {b : List UInt8} {k n : Int} {s : List UInt8} {l : List CV} (h : zgn b (zbe (.mk k n s l))) : zgn b (zcu (k % 256)) := by
 rw [zae] at h
 unfold zgn at h |-
 have : (zf6 k).length = 1 := rfl
 have : (zcu (k % 256)).length = 1 := rfl
 rw [List.length_append] at h
 omega
theorem zvx {b q : List UInt8} {k : Int} (h : zgn b (zf6 k ++ q)) : zgn (zab b (zcu (k % 256))) q := by
 unfold zgn zab at *
 have : (zf6 k).length = 1 := rfl
 have : (zcu (k % 256)).length = 1 := rfl
 rw [List.length_append] at h |-
 omega
theorem yl1 {b q r : List UInt8} {k : Int} (h : zgn b (zf6 k ++ (q ++ r))) : zgn (zab b (zcu (k % 256))) q := by
 unfold zgn zab at *
 have : (zf6 k).length = 1 := rfl
 have : (zcu (k % 256)).length = 1 := rfl
 rw [List.length_append, List.length_append] at h
 rw [List.length_append]
 omega
theorem zvw {x y : List UInt8} (h : x = y) : (lenN x = lenN y /\ ∀ i j : Nat, i < lenN y -> j < 1 -> AV.int .u8 (zca x i) = AV.int .u8 (zca y i)) /\ lenN x = lenN y := by
 subst h; exact ⟨⟨rfl, fun _ _ _ _ => rfl⟩, rfl⟩
theorem ykw {b q t : List UInt8} {k : Int} (h : t = zf6 k ++ q) : (lenN (zab (zab b (zcu (k % 256))) q) = lenN (zab b t) /\ ∀ i j : Nat, i < lenN (zab b t) -> j < 1 -> AV.int .u8 (zca (zab (zab b (zcu (k % 256))) q) i) = AV.int .u8 (zca (zab b t) i)) /\ lenN (zab (zab b (zcu (k % 256))) q) = lenN (zab b t) :=
 zvw (by rw [h]; unfold zab; rw [List.append_assoc]; rfl)
theorem ykx {q t : List UInt8} {k : Int} (h : t = zf6 k ++ q) : (lenN (zab (zcu (k % 256)) q) = lenN t /\ ∀ i j : Nat, i < lenN t -> j < 1 -> AV.int .u8 (zca (zab (zcu (k % 256)) q) i) = AV.int .u8 (zca t i)) /\ lenN (zab (zcu (k % 256)) q) = lenN t :=
 zvw (by rw [h]; rfl)
theorem yn8 {N : Nat} (ih : zo2 Tryz.prog (zrd N std)) (b : List UInt8) (k n : Int) (s : List UInt8) (l : List CV) (hz : zj4 (N + 1) (.mk k n s l)) (hw : zp2 (.mk k n s l)) (hb : zgn b (zbe (.mk k n s l))) :
   ze6 Tryz.prog 54 [.ref 500000 0, .agg [.int .i64 k, .int .u64 n, .str s, cvL std l]] (bld std b) (.tup []) (zvf std (zab b (zbe (.mk k n s l)))) := by
 refine zeg (T := tt) (S := fun L => zh8 [zm9 L] [yv7 L, yv4 L, zrd N L]) (lo := fun L => putA L b k l) (lb := noA) 5 (fn := Tryz.f54) (xs := fun L => [.ref 500000 0, .agg [.int .i64 k, .int .u64 n, .str s, cvL L l]]) (rts := fun _ => []) (O := fun L => bld L b) (O1 := fun L => zvf L (L2 L zab b (L zbe (.mk k n s l))))
   rfl rfl (by kernel_rfl) (by kernel_rfl) (by kernel_rfl) zaa (zcv ⟨zke, trivial⟩ ⟨yaw, yar, ih, trivial⟩) (by kernel_rfl) ?_
 intro L P' Q' hL hP hQ
 have hB : ∀ b : List UInt8, L (L zc5 (L lenN b)) (fun i => (AV.int .u8 (L2 L zca b i)).toI) = b := by subst hL; exact zib
 (cbv; try simp only [syT, true_and, and_true])
 simp only [hB]
 refine ⟨⟨trivial, fun _ _ _ _ => trivial⟩, trivial, ⟨?_, ?_⟩, fun h1 => ⟨?_, ⟨trivial, fun _ _ _ _ => trivial⟩, trivial, ?_, ?_⟩, fun h1 => ⟨fun h2 => ⟨?_, ?_, ⟨trivial, fun _ _ _ _ => trivial⟩, trivial, ?_, ?_⟩, fun h2 => ⟨?_, ⟨trivial, fun _ _ _ _ => trivial⟩, trivial, ?_, ⟨0, ?_⟩, fun i hi => ?_⟩⟩⟩
 · (subst hL; subst hQ; simp only [L2, L3, std] at *; try simp only [syS, reduceCtorEq, Int.reduceToNat, Int.reduceAdd, Int.reduceSub] at *)
   exact ⟨Int.emod_nonneg _ (by omega), Int.emod_lt_of_pos _ (by omega)⟩
 · (subst hL; subst hQ; simp only [L2, L3, std] at *; try simp only [syS, reduceCtorEq, Int.reduceToNat, Int.reduceAdd, Int.reduceSub] at *)
   exact ys3 hb
 · (subst hL; subst hQ; simp only [L2, L3, std] at *; try simp only [syS, reduceCtorEq, Int.reduceToNat, Int.reduceAdd, Int.reduceSub] at *)
   rw [zp0] at hw
   exact hw.1.1
 · (subst hL; subst hQ; simp only [L2, L3, std] at *; try simp only [syS, reduceCtorEq, Int.reduceToNat, Int.reduceAdd, Int.reduceSub] at *)
   rw [zae, if_pos h1] at hb
   exact zvx hb
 · (subst hL; subst hQ; simp only [L2, L3, std] at *; try simp only [syS, reduceCtorEq, Int.reduceToNat, Int.reduceAdd, Int.reduceSub] at *)
   exact ykw (by rw [zae, if_pos h1])
 · (subst hL; subst hQ; simp only [L2, L3, std] at *; try simp only [syS, reduceCtorEq, Int.reduceToNat, Int.reduceAdd, Int.reduceSub] at *)
   rw [zp0] at hw
   rw [zfv (by omega) (by omega)]
   exact ⟨by omega, by omega⟩
 · (subst hL; subst hQ; simp only [L2, L3, std] at *; try simp only [syS, reduceCtorEq, Int.reduceToNat, Int.reduceAdd, Int.reduceSub] at *)
   rw [zh7 hw.1]
   have h3 := hw.2
   rw [zae, if_neg h1, if_pos h2] at h3
   simp at h3 |-
   omega
 · (subst hL; subst hQ; simp only [L2, L3, std] at *; try simp only [syS, reduceCtorEq, Int.reduceToNat, Int.reduceAdd, Int.reduceSub] at *)
   rw [zh7 hw.1]
   rw [zae, if_neg h1, if_pos h2] at hb
   exact zvx hb
 · (subst hL; subst hQ; simp only [L2, L3, std] at *; try simp only [syS, reduceCtorEq, Int.reduceToNat, Int.reduceAdd, Int.reduceSub] at *)
   rw [zh7 hw.1]
   exact ykw (by rw [zae, if_neg h1, if_pos h2])
 · (subst hL; subst hQ; simp only [L2, L3, std] at *; try simp only [syS, reduceCtorEq, Int.reduceToNat, Int.reduceAdd, Int.reduceSub] at *)
   rw [zgk hz]
   exact zhp hz
 · (subst hL; subst hQ; simp only [L2, L3, std] at *; try simp only [syS, reduceCtorEq, Int.reduceToNat, Int.reduceAdd, Int.reduceSub] at *)
   rw [zgk hz]
   rw [zae, if_neg h1, if_neg h2] at hb
   exact yl1 hb
 · (cbv; try simp only [syT, true_and, and_true])
   (subst hL; subst hQ; simp only [L2, L3, std] at *; try simp only [syS, reduceCtorEq, Int.reduceToNat, Int.reduceAdd, Int.reduceSub] at *)
   rw [zgk hz]
   have e : zab (zab b (zcu (k % 256))) (zat ((l.length : Nat) : Int)) = zpj b k l 0 := by
     rw [zpj, zfw, List.take_zero, zap, List.append_nil]; rfl
   rw [e]
   exact ⟨⟨rfl, fun _ _ _ _ => rfl⟩, rfl, Nat.zero_le _⟩
 · cbv at hi
   (cbv; try simp only [syT, true_and, and_true])
   simp only [hB]
   refine ⟨fun hlt => ⟨?_, ⟨trivial, fun _ _ _ _ => trivial⟩, trivial, fun _ _ _ _ => trivial, ⟨?_, ?_, ?_, ?_⟩, ⟨i + 1, ?_⟩⟩, fun hge => ?_⟩
   · (subst hL; subst hQ; simp only [L2, L3, std] at *; try simp only [syS, reduceCtorEq, Int.reduceToNat, Int.reduceAdd, Int.reduceSub] at *)
     omega
   · (subst hL; subst hQ; simp only [L2, L3, std] at *; try simp only [syS, reduceCtorEq, Int.reduceToNat, Int.reduceAdd, Int.reduceSub] at *)
     exact (zfb _).2
   · (subst hL; subst hQ; simp only [L2, L3, std] at *; try simp only [syS, reduceCtorEq, Int.reduceToNat, Int.reduceAdd, Int.reduceSub] at *)
     rw [zbm]
     rw [zac] at hz
     exact zfh hz.1 (by have : lenL l = l.length := rfl; omega)
   · (subst hL; subst hQ; simp only [L2, L3, std] at *; try simp only [syS, reduceCtorEq, Int.reduceToNat, Int.reduceAdd, Int.reduceSub] at *)
     rw [zad]
     exact yb2 hw (by omega) (by omega) (by have : lenL l = l.length := rfl; omega)
   · (subst hL; subst hQ; simp only [L2, L3, std] at *; try simp only [syS, reduceCtorEq, Int.reduceToNat, Int.reduceAdd, Int.reduceSub] at *)
     rw [zad]
     have h4 := zd0 (l := l) (i := i) (by have : lenL l = l.length := rfl; omega)
     have h5 := zht l (i + 1)
     rw [h4, List.length_append] at h5
     rw [zae, if_neg h1, if_neg h2] at hb
     unfold zgn at hb |-
     simp only [List.length_append, zpj] at hb |-
     omega
   · (cbv; try simp only [syT, true_and, and_true])
     (subst hL; subst hQ; simp only [L2, L3, std] at *; try simp only [syS, reduceCtorEq, Int.reduceToNat, Int.reduceAdd, Int.reduceSub] at *)
     have : lenL l = l.length := rfl
     have := ze3 l
     rw [zac] at hz
     have h4 := hz.1.1
     have h5 := hz.1.2
     rw [zad]
     have e : zab (zpj b k l i) (zbe (zbj l i)) = zpj b k l (i + 1) := by
       rw [zpj, zpj, zd0 (by omega)]; unfold zab; simp only [List.append_assoc]
     rw [e]
     exact ⟨⟨rfl, fun _ _ _ _ => rfl⟩, rfl, by omega, by omega, by omega⟩
   · (subst hL; subst hQ; simp only [L2, L3, std] at *; try simp only [syS, reduceCtorEq, Int.reduceToNat, Int.reduceAdd, Int.reduceSub] at *)
     have : lenL l = l.length := rfl
     have hil : i = l.length := by omega
     exact zvw (by rw [zae, if_neg h1, if_neg h2, zpj, hil, zfw, List.take_length]; unfold zab; simp only [List.append_assoc])
theorem yn9 {N : Nat} (ih : zo2 Tryz.prog (zrd N std)) (k n : Int) (s : List UInt8) (l : List CV) (hz : zj4 (N + 1) (.mk k n s l)) (hw : zp2 (.mk k n s l)) :
   ze6 Tryz.prog 54 [.ref 500000 0, .agg [.int .i64 k, .int .u64 n, .str s, cvL std l]] yrc (.tup []) (zvf std (zbe (.mk k n s l))) := by
 refine zeg (T := tt) (S := fun L => zh8 [zm9 L] [yv7 L, yv4 L, zrd N L]) (lo := fun L => putA L [] k l) (lb := noA) 5 (fn := Tryz.f54) (xs := fun L => [.ref 500000 0, .agg [.int .i64 k, .int .u64 n, .str s, cvL L l]]) (rts := fun _ => []) (O := fun L => yrc) (O1 := fun L => zvf L (L zbe (.mk k n s l)))
   rfl rfl (by kernel_rfl) (by kernel_rfl) (by kernel_rfl) zaa (zcv ⟨zke, trivial⟩ ⟨yaw, yar, ih, trivial⟩) (by kernel_rfl) ?_
 intro L P' Q' hL hP hQ
 have hb : zgn [] (zbe (.mk k n s l)) := by have := hw.2; unfold zgn; simp; omega
 have hB : ∀ b : List UInt8, L (L zc5 (L lenN b)) (fun i => (AV.int .u8 (L2 L zca b i)).toI) = b := by subst hL; exact zib
 (cbv; try simp only [syT, true_and, and_true])
 simp only [hB]
 refine ⟨?_, fun h1 => ⟨?_, ⟨trivial, fun _ _ _ _ => trivial⟩, trivial, ?_, ?_⟩, fun h1 => ⟨fun h2 => ⟨?_, ?_, ⟨trivial, fun _ _ _ _ => trivial⟩, trivial, ?_, ?_⟩, fun h2 => ⟨?_, ⟨trivial, fun _ _ _ _ => trivial⟩, trivial, ?_, ⟨0, ?_⟩, fun i hi => ?_⟩⟩⟩
 · (subst hL; subst hQ; simp only [L2, L3, std] at *; try simp only [syS, reduceCtorEq, Int.reduceToNat, Int.reduceAdd, Int.reduceSub] at *)
   exact ⟨Int.emod_nonneg _ (by omega), Int.emod_lt_of_pos _ (by omega)⟩
 · (subst hL; subst hQ; simp only [L2, L3, std] at *; try simp only [syS, reduceCtorEq, Int.reduceToNat, Int.reduceAdd, Int.reduceSub] at *)
   rw [zp0] at hw
   exact hw.1.1
 · (subst hL; subst hQ; simp only [L2, L3, std] at *; try simp only [syS, reduceCtorEq, Int.reduceToNat, Int.reduceAdd, Int.reduceSub] at *)
   rw [zae, if_pos h1] at hb
   exact zvx hb
 · (subst hL; subst hQ; simp only [L2, L3, std] at *; try simp only [syS, reduceCtorEq, Int.reduceToNat, Int.reduceAdd, Int.reduceSub] at *)
   exact ykx (by rw [zae, if_pos h1])
 · (subst hL; subst hQ; simp only [L2, L3, std] at *; try simp only [syS, reduceCtorEq, Int.reduceToNat, Int.reduceAdd, Int.reduceSub] at *)
   rw [zp0] at hw
   rw [zfv (by omega) (by omega)]
   exact ⟨by omega, by omega⟩
 · (subst hL; subst hQ; simp only [L2, L3, std] at *; try simp only [syS, reduceCtorEq, Int.reduceToNat, Int.reduceAdd, Int.reduceSub] at *)
   rw [zh7 hw.1]
   have h3 := hw.2
   rw [zae, if_neg h1, if_pos h2] at h3
   simp at h3 |-
   omega
 · (subst hL; subst hQ; simp only [L2, L3, std] at *; try simp only [syS, reduceCtorEq, Int.reduceToNat, Int.reduceAdd, Int.reduceSub] at *)
   rw [zh7 hw.1]
   rw [zae, if_neg h1, if_pos h2] at hb
   exact zvx hb
 · (subst hL; subst hQ; simp only [L2, L3, std] at *; try simp only [syS, reduceCtorEq, Int.reduceToNat, Int.reduceAdd, Int.reduceSub] at *)
   rw [zh7 hw.1]
   exact ykx (by rw [zae, if_neg h1, if_pos h2])
 · (subst hL; subst hQ; simp only [L2, L3, std] at *; try simp only [syS, reduceCtorEq, Int.reduceToNat, Int.reduceAdd, Int.reduceSub] at *)
   rw [zgk hz]
   exact zhp hz
 · (subst hL; subst hQ; simp only [L2, L3, std] at *; try simp only [syS, reduceCtorEq, Int.reduceToNat, Int.reduceAdd, Int.reduceSub] at *)
   rw [zgk hz]
   rw [zae, if_neg h1, if_neg h2] at hb
   exact yl1 hb
 · (cbv; try simp only [syT, true_and, and_true])
   (subst hL; subst hQ; simp only [L2, L3, std] at *; try simp only [syS, reduceCtorEq, Int.reduceToNat, Int.reduceAdd, Int.reduceSub] at *)
   rw [zgk hz]
   have e : zab (zcu (k % 256)) (zat ((l.length : Nat) : Int)) = zpj [] k l 0 := by
     rw [zpj, zfw, List.take_zero, zap, List.append_nil]; rfl
   rw [e]
   exact ⟨⟨rfl, fun _ _ _ _ => rfl⟩, rfl, Nat.zero_le _⟩
 · cbv at hi
   (cbv; try simp only [syT, true_and, and_true])
   simp only [hB]
   refine ⟨fun hlt => ⟨?_, ⟨trivial, fun _ _ _ _ => trivial⟩, trivial, fun _ _ _ _ => trivial, ⟨?_, ?_, ?_, ?_⟩, ⟨i + 1, ?_⟩⟩, fun hge => ?_⟩
   · (subst hL; subst hQ; simp only [L2, L3, std] at *; try simp only [syS, reduceCtorEq, Int.reduceToNat, Int.reduceAdd, Int.reduceSub] at *)
     omega
   · (subst hL; subst hQ; simp only [L2, L3, std] at *; try simp only [syS, reduceCtorEq, Int.reduceToNat, Int.reduceAdd, Int.reduceSub] at *)
     exact (zfb _).2
   · (subst hL; subst hQ; simp only [L2, L3, std] at *; try simp only [syS, reduceCtorEq, Int.reduceToNat, Int.reduceAdd, Int.reduceSub] at *)
     rw [zbm]
     rw [zac] at hz
     exact zfh hz.1 (by have : lenL l = l.length := rfl; omega)
   · (subst hL; subst hQ; simp only [L2, L3, std] at *; try simp only [syS, reduceCtorEq, Int.reduceToNat, Int.reduceAdd, Int.reduceSub] at *)
     rw [zad]
     exact yb2 hw (by omega) (by omega) (by have : lenL l = l.length := rfl; omega)
   · (subst hL; subst hQ; simp only [L2, L3, std] at *; try simp only [syS, reduceCtorEq, Int.reduceToNat, Int.reduceAdd, Int.reduceSub] at *)
     rw [zad]
     have h4 := zd0 (l := l) (i := i) (by have : lenL l = l.length := rfl; omega)
     have h5 := zht l (i + 1)
     rw [h4, List.length_append] at h5
     rw [zae, if_neg h1, if_neg h2] at hb
     unfold zgn at hb |-
     simp only [List.length_append, zpj] at hb |-
     omega
   · (cbv; try simp only [syT, true_and, and_true])
     (subst hL; subst hQ; simp only [L2, L3, std] at *; try simp only [syS, reduceCtorEq, Int.reduceToNat, Int.reduceAdd, Int.reduceSub] at *)
     have : lenL l = l.length := rfl
     have := ze3 l
     rw [zac] at hz
     have h4 := hz.1.1
     have h5 := hz.1.2
     rw [zad]
     have e : zab (zpj [] k l i) (zbe (zbj l i)) = zpj [] k l (i + 1) := by
       rw [zpj, zpj, zd0 (by omega)]; unfold zab; simp only [List.append_assoc]
     rw [e]
     exact ⟨⟨rfl, fun _ _ _ _ => rfl⟩, rfl, by omega, by omega, by omega⟩
   · (subst hL; subst hQ; simp only [L2, L3, std] at *; try simp only [syS, reduceCtorEq, Int.reduceToNat, Int.reduceAdd, Int.reduceSub] at *)
     have : lenL l = l.length := rfl
     have hil : i = l.length := by omega
     exact zvw (by rw [zae, if_neg h1, if_neg h2, zpj, hil, zfw, List.take_length, List.nil_append, List.append_assoc])
theorem ye0 {P : Program} {f : FuncId} {xs ys : List AV} {O O1 : List (Nat × Ob)} {r : AV} (e : ∀ h D μ vs, RL h D μ xs vs -> RL h D μ ys vs) (hm : ze6 P f ys O r O1) : ze6 P f xs O r O1 :=
 fun D w μ vs hD hx => hm D w μ vs hD (e _ _ _ _ hx)
theorem yfm : ∀ N, zo2 Tryz.prog (zrd N std) := by
 intro N
 induction N with
 | zero =>
   intro raw ob T hT hp
   unfold zrd at hT
   simp only at hT
   split at hT
   · rename_i k n s x
     split at hT <;> cases hT
     · have h1 : sizeC (mkV std k n s x) <= 0 := hp.2.1.1
       have := zdb (mkV std k n s x)
       omega
     · have h1 : sizeC (mkV std k n s x) <= 0 := hp.2.1.1
       have := zdb (mkV std k n s x)
       omega
   · cases hT
 | succ N ih =>
   intro raw ob T hT hp
   unfold zrd at hT
   simp only at hT
   split at hT
   rotate_left
   · cases hT
   rename_i k n s x
   split at hT <;> cases hT
   · refine ye0 (fun h D μ vs hr => ywo (fun v => ym5 hp.1) hr) ?_
     exact yn9 ih k n s (rdL x) hp.2.1 hp.2.2
   · refine ye0 (fun h D μ vs hr => ywo (fun v => ym5 hp.1) hr) ?_
     exact yn8 ih _ k n s (rdL x) hp.2.1 hp.2.2.1 hp.2.2.2
theorem zvj {P : Program} {f : FuncId} {sz n : Nat} {get : Nat -> Nat -> AV} {r : AV} (h0 : n = 0 -> za7 P f [.nils] r) (h1 : n = 0 -> za7 P f [.emp] r) (h2 : 0 < n -> za7 P f [.lst sz n get] r) : za7 P f [.lst sz n get] r := by
 by_cases e : n = 0
 · subst e
   intro D w vs hD hx
   obtain ⟨v, hv⟩ : ∃ v, vs.toList = [v] := List.length_eq_one_iff.1 (by simpa using hx.1.symm)
   have : vs = #[v] := by rw [<- Array.toArray_toList (xs := vs), hv]
   subst this
   have hr := hx.2 0 _ _ rfl rfl
   have one : ∀ y, R w.heap D zav y v -> RL w.heap D zav [y] #[v] := fun y r => ⟨rfl, fun i x u hx hu => by
     match i with
     | 0 => cases hx; cases hu; exact r
     | i + 1 => simp at hx⟩
   cases hr with
   | lst0 _ _ a cap hn =>
     cases a with
     | none =>
       obtain rfl := hn rfl
       exact h0 rfl D w _ hD (one _ .nils)
     | some a => exact h1 rfl D w _ hD (one _ (.emp a cap))
   | lst _ _ _ b o cap vs' hD' hc hv' h1' hr' => exact h1 rfl D w _ hD (one _ (.emp _ cap))
 · exact h2 (by omega)
def zep (n : Int) : CV := .mk 1 n [] []
def zgh (s : List UInt8) : CV := .mk 2 0 s []
def zc3 (l : List CV) : CV := .mk 3 0 [] l
def zu1 (L : za9) : zbn := (31, fun xs => match xs with | [.int .u64 n] => some (True, cvA L (L zep n)) | _ => none)
def zt5 (L : za9) : zbn := (32, fun xs => match xs with | [.str s] => some (True, cvA L (L zgh s)) | _ => none)
theorem zjl : zay Tryz.prog (zu1 std) := by
 intro xs p r h hp
 unfold zu1 at h
 simp only at h
 split at h
 rotate_left
 · cases h
 rename_i n
 cases h
 refine za5 (T := tt) (S := noS) (lo := noA) (lb := noA) 5 (fn := Tryz.f31) rfl rfl (by kernel_rfl) (by kernel_rfl) rfl zaa (zcc _) (by kernel_rfl) ?_
 (intro L P1 Q1 hL hP hQ; cbv; subst hL; simp only [L2, L3, std, syT]; subst hQ)
 show zh6 (.agg [.int .i64 1, .int .u64 n, .str [], .lst 4 0 (zer (zep n))]) _
 simp [zhm, zb7, zbh, zeq, zbi]
theorem zj1 : zay Tryz.prog (zt5 std) := by
 intro xs p r h hp
 unfold zt5 at h
 simp only at h
 split at h
 rotate_left
 · cases h
 rename_i n
 cases h
 refine za5 (T := tt) (S := noS) (lo := noA) (lb := noA) 5 (fn := Tryz.f32) rfl rfl (by kernel_rfl) (by kernel_rfl) rfl zaa (zcc _) (by kernel_rfl) ?_
 (intro L P1 Q1 hL hP hQ; cbv; subst hL; simp only [L2, L3, std, syT]; subst hQ)
 show zh6 (.agg [.int .i64 2, .int .u64 0, .str n, .lst 4 0 (zer (zgh n))]) _
 simp [zhm, zb7, zbh, zeq, zbi]
def zru (l : List CV) : Prop := l.length <= 1000000
def zv0 (L : za9) : zbn := (57, fun xs => match xs with
 | [x] => some (L okL x /\ L zru (L rdL x), .lst 4 (L lenL (L rdL x)) (L zek (L rdL x)))
 | _ => none)
theorem zzm : zay Tryz.prog (zv0 std) := by
 intro xs p r h hp
 unfold zv0 at h
 simp only at h
 split at h
 rotate_left
 · cases h
 rename_i x
 cases h
 obtain ⟨ho, hz⟩ := hp
 refine yvz ho ?_
 have hz : zru (rdL x) := hz
 show za7 _ _ [cvL std (rdL x)] (.lst 4 (lenL (rdL x)) (zek (rdL x)))
 generalize rdL x = l at hz |-
 refine zvj (fun h => ?_) (fun h => ?_) (fun h => ?_)
 · refine za5 (T := tt) (S := noS) (lo := noA) (lb := noA) 5 (fn := Tryz.f57) rfl rfl (by kernel_rfl) (by kernel_rfl) rfl zaa (zcc _) (by kernel_rfl) ?_
   intro L P' Q' hL hP hQ
   (cbv; try simp only [syT, true_and, and_true])
   (subst hL; subst hQ; simp only [L2, L3, std] at *; try simp only [syS, reduceCtorEq, Int.reduceToNat, Int.reduceAdd, Int.reduceSub] at *)
   exact h.symm
 · refine za5 (T := tt) (S := noS) (lo := noA) (lb := noA) 5 (fn := Tryz.f57) rfl rfl (by kernel_rfl) (by kernel_rfl) rfl zaa (zcc _) (by kernel_rfl) ?_
   intro L P' Q' hL hP hQ
   (cbv; try simp only [syT, true_and, and_true])
   (subst hL; subst hQ; simp only [L2, L3, std] at *; try simp only [syS, reduceCtorEq, Int.reduceToNat, Int.reduceAdd, Int.reduceSub] at *)
   exact ⟨by omega, h.symm, fun i j hi => by omega⟩
 · refine za8 (T := tt) (S := noS) (lo := fun _ => noA std) (lb := noA) 5 (fn := Tryz.f57) (xs := fun L => [cvL L l]) rfl rfl (by kernel_rfl) (by kernel_rfl) rfl zaa (zcc _) (by kernel_rfl) ?_
   intro L P' Q' hL hP hQ
   (cbv; try simp only [syT, true_and, and_true])
   (subst hL; subst hQ; simp only [L2, L3, std] at *; try simp only [syS, reduceCtorEq, Int.reduceToNat, Int.reduceAdd, Int.reduceSub] at *)
   have h1 : lenL l <= 1000000 := hz
   exact ⟨zel h, by omega, fun i j hi hj => by rw [zd6 _ _ hj, zb4 _ _ _ hi]⟩
def zga (L : za9) : zbn := (34, fun xs => match xs with
 | [x] => some (L okL x /\ L zru (L rdL x), cvA L (L zc3 (L rdL x)))
 | _ => none)
theorem zco : zay Tryz.prog (zga std) := by
 intro xs p r h hp
 unfold zga at h
 simp only at h
 split at h
 rotate_left
 · cases h
 rename_i x
 cases h
 obtain ⟨ho, hz⟩ := hp
 refine yvz ho ?_
 have hz : zru (rdL x) := hz
 show za7 _ _ [cvL std (rdL x)] (cvA std (zc3 (rdL x)))
 generalize rdL x = l at hz |-
 refine za8 (T := tt) (S := fun L => zai [zv0 L]) (lo := fun _ => noA std) (lb := noA) 5 (fn := Tryz.f34) (xs := fun L => [cvL L l]) rfl rfl (by kernel_rfl) (by kernel_rfl) rfl zaa (za1 ⟨zzm, trivial⟩) (by kernel_rfl) ?_
 intro L P' Q' hL hP hQ
 (cbv; try simp only [syT, true_and, and_true])
 (subst hL; subst hQ; simp only [L2, L3, std] at *; try simp only [syS, reduceCtorEq, Int.reduceToNat, Int.reduceAdd, Int.reduceSub] at *)
 rw [rdl]
 refine ⟨⟨okl l, hz⟩, ?_⟩
 show zh6 (.agg [.int .i64 3, .int .u64 0, .str [], .lst 4 (lenL l) (zek l)]) _
 simp [zhm, zb7, zbh, zdu, zbi]
def zjf (v : CV) : Int := if zda v = true then (if zcl v > 6 then 8 else if (zbe v).length > 8192 then 5 else 0) else 10
def zje (v : CV) : List UInt8 := if zjf v = 0 then zbe v else []
def zsf (N : Nat) (L : za9) : zbn := (33, fun xs => match xs with
 | [.agg [.int .i64 k, .int .u64 n, .str s, x]] => some (L okL x /\ L2 L zj4 N (mkV L k n s x) /\ L zp2 (mkV L k n s x), .tup [.str (L zje (mkV L k n s x)), .int .i64 (L zjf (mkV L k n s x))])
 | _ => none)
def zpa (N : Nat) (L : za9) : zbn := (41, fun xs => match xs with
 | [.agg [.int .i64 k, .int .u64 n, .str s, x]] => some (L okL x /\ L2 L zj4 N (mkV L k n s x) /\ L zp2 (mkV L k n s x), .tup [.str (L zje (mkV L k n s x)), .int .i64 (L zjf (mkV L k n s x))])
 | _ => none)
theorem zkv (N : Nat) : zay Tryz.prog (zsf N std) := by
 intro xs p r h hp
 unfold zsf at h
 simp only at h
 split at h
 rotate_left
 · cases h
 rename_i k n s x
 cases h
 obtain ⟨ho, hz, hw⟩ := hp
 refine ylz ho ?_
 rw [show mkV std k n s x = .mk k n s (rdL x) from rfl] at hz hw |-
 generalize rdL x = l at hz hw |-
 have hz : zj4 N (.mk k n s l) := hz
 have hw : zp2 (.mk k n s l) := hw
 refine za8 (T := tt) (S := fun L => zh8 [zos N L, zsc N L] [zrd N L, bl_m L, bs_m L]) (lo := fun _ => noA std) (lb := noA) 5 (fn := Tryz.f33) (xs := fun L => [.agg [.int .i64 k, .int .u64 n, .str s, cvL L l]]) rfl rfl (by kernel_rfl) (by kernel_rfl) rfl zaa
   (zcv ⟨ygb N, yf5 N, trivial⟩ ⟨yfm N, yqi, yqe, trivial⟩) (by kernel_rfl) ?_
 intro L P' Q' hL hP hQ
 have hB : ∀ b : List UInt8, L (L zc5 (L lenN b)) (fun i => (AV.int .u8 (L2 L zca b i)).toI) = b := by subst hL; exact zib
 (cbv; try simp only [syT, true_and, and_true])
 simp only [hB]
 (subst hL; subst hQ; simp only [L2, L3, std] at *; try simp only [syS, reduceCtorEq, Int.reduceToNat, Int.reduceAdd, Int.reduceSub] at *)
 simp only [rdl, mkl]
 refine ⟨⟨okl l, hz⟩, fun h1 => ?_, fun h1 => ⟨⟨okl l, hz⟩, fun h2 => ?_, fun h2 => ⟨⟨okl l, hz, hw⟩, fun h3 => ?_, fun h3 => ⟨⟨?_, hw.2⟩, ?_⟩⟩⟩⟩
 · simp [zje, zjf, h1]
 · simp [zje, zjf, h1, h2]
 · have h4 : ¬ 6 < zcl (.mk k n s l) := by omega
   have h5 : 8192 < (zbe (.mk k n s l)).length := by omega
   simp [zje, zjf, h1, h4, h5]
 · rw [zae]; simp [zf6]
 · have h4 : ¬ 6 < zcl (.mk k n s l) := by omega
   have h5 : ¬ 8192 < (zbe (.mk k n s l)).length := by omega
   simp [zje, zjf, h1, h4, h5]
theorem zo8 (N : Nat) : zay Tryz.prog (zpa N std) := by
 intro xs p r h hp
 unfold zpa at h
 simp only at h
 split at h
 rotate_left
 · cases h
 rename_i k n s x
 cases h
 obtain ⟨ho, hz, hw⟩ := hp
 refine ylz ho ?_
 rw [show mkV std k n s x = .mk k n s (rdL x) from rfl] at hz hw |-
 generalize rdL x = l at hz hw |-
 have hz : zj4 N (.mk k n s l) := hz
 have hw : zp2 (.mk k n s l) := hw
 refine za8 (T := tt) (S := fun L => zai [zmj N L, zmh N L, zmc N L]) (lo := fun _ => noA std) (lb := noA) 5 (fn := Tryz.f41) (xs := fun L => [.agg [.int .i64 k, .int .u64 n, .str s, cvL L l]]) rfl rfl (by kernel_rfl) (by kernel_rfl) rfl zaa
   (za1 ⟨zyg N, zyf N, zy4 N, trivial⟩) (by kernel_rfl) ?_
 intro L P' Q' hL hP hQ
 (cbv; try simp only [syT, true_and, and_true])
 (subst hL; subst hQ; simp only [L2, L3, std] at *; try simp only [syS, reduceCtorEq, Int.reduceToNat, Int.reduceAdd, Int.reduceSub] at *)
 simp only [rdl, mkl]
 refine ⟨⟨okl l, hz⟩, fun h1 => ?_, fun h1 => ⟨⟨okl l, hz⟩, fun h2 => ?_, fun h2 => ⟨⟨okl l, hz, hw⟩, fun h3 => ?_, fun h3 => ?_⟩⟩⟩
 · simp [zje, zjf, h1]
 · simp [zje, zjf, h1, h2]
 · have h4 : ¬ 6 < zcl (.mk k n s l) := by omega
   have h5 : 8192 < (zbe (.mk k n s l)).length := by omega
   simp [zje, zjf, h1, h4, h5]
 · have h4 : ¬ 6 < zcl (.mk k n s l) := by omega
   have h5 : ¬ 8192 < (zbe (.mk k n s l)).length := by omega
   simp [zje, zjf, h1, h4, h5]
theorem one1 (v : CV) : rdL (.lst 4 1 fun i j => zby .dead [.int .i64 v.kd, .int .u64 v.nn, .str v.tx, .lst 4 (zcx v) (zer v)] (i * 4 + j)) = [v] := by
 show [CV.mk v.kd v.nn v.tx (rdL (.lst 4 (zcx v) (zer v)))] = [v]
 rw [zbm]
theorem ynl (v : CV) : okL (.lst 4 1 fun i j => zby .dead [.int .i64 v.kd, .int .u64 v.nn, .str v.tx, .lst 4 (zcx v) (zer v)] (i * 4 + j)) := by
 refine ⟨rfl, fun i hi => ?_⟩
 have : i = 0 := by omega
 subst this
 exact ⟨⟨_, rfl⟩, ⟨_, rfl⟩, ⟨_, rfl⟩, (zfb v).2⟩
theorem ybh : zat 1 = [1] := by rw [zat, show (1 : Int).toNat = 1 from rfl, zbd (by decide)]; rfl
theorem yrw : zat 5 = [5] := by rw [zat, show (5 : Int).toNat = 5 from rfl, zbd (by decide)]; rfl
theorem zus : zbe (zc3 [zep 5]) = [3, 1, 1, 5] := by
 rw [zc3, zep, zae, if_neg (by decide), if_neg (by decide), zap, zae, if_pos rfl, zap, yrw]
 show _ ++ (zat 1 ++ _) = _
 rw [ybh]; rfl
theorem yph : zda (zc3 [zep 5]) = true := by rw [zc3, zep, zda, zbl, zda, zbl]; rfl
theorem ypg : zcl (zc3 [zep 5]) = 1 := by rw [zc3, zep, zcl, zaw, zcl, zaw]; rfl
theorem ype : sizeC (zc3 [zep 5]) = 2 := by rw [zc3, zep, zc0, zb5, zbp, zc0, zbp]
theorem yf1 : zjf (zc3 [zep 5]) = 0 := by rw [zjf, yph, ypg, zus]; rfl
theorem ypf : zje (zc3 [zep 5]) = [3, 1, 1, 5] := by rw [zje, yf1, zus]; rfl
theorem ex_tx : zp2 (zc3 [zep 5]) := by
 refine ⟨?_, by rw [zus]; decide⟩
 simp only [zc3, zep, wfV, zkc, zax]
 decide
theorem zzy : za7 Tryz.prog 113 [] (.bool true) := by
 refine za5 (T := tt) (S := fun L => zai [zu1 L, zga L, zsf 100 L, tru 124]) (lo := noA) (lb := noA) 5 (fn := Tryz.f113) rfl rfl (by kernel_rfl) (by kernel_rfl) rfl zaa (za1 ⟨zjl, zco, zkv 100, zb9 zic, trivial⟩) (by kernel_rfl) ?_
 intro L P' Q' hL hP hQ
 (cbv; try simp only [syT, true_and, and_true])
 (subst hL; subst hQ; simp only [L2, L3, std] at *; try simp only [syS, reduceCtorEq, Int.reduceToNat, Int.reduceAdd, Int.reduceSub] at *)
 simp only [one1, zbm, zad, yf1, ypf]
 exact ⟨⟨ynl _, by show (1 : Nat) <= 1000000; omega⟩, ⟨(zfb _).2, ⟨by rw [ype]; omega, by omega⟩, ex_tx⟩, fun _ => trivial, trivial⟩
theorem zow : za7 Tryz.prog 80 [] (.bool true) := by
 refine za5 (T := tt) (S := fun L => zai [tru 113]) (lo := noA) (lb := noA) 5 (fn := Tryz.f80) rfl rfl (by kernel_rfl) (by kernel_rfl) rfl zaa (za1 ⟨zb9 zzy, trivial⟩) (by kernel_rfl) ?_
 (intro L P1 Q1 hL hP hQ; cbv; subst hL; simp only [L2, L3, std, syT]; subst hQ)
 (simp only [syS, reduceCtorEq, Int.reduceToNat, Int.reduceAdd, Int.reduceSub])
theorem zn9 (g : Nat -> CV) {i q j : Nat} (hq : q < i + 1) (hj : j < 4) :
   zid std (zc9 q i) (cv1 std (g q) j) (zby .dead [.int .i64 (g i).kd, .int .u64 (g i).nn, .str (g i).tx, .lst 4 (zcx (g i)) (zer (g i))] ((q - i) * 4 + j)) = cv1 std (g q) j := by
 by_cases h : q < i
 · rw [zel h, show q - i = 0 by omega, Nat.zero_mul, Nat.zero_add]
   match j, hj with
   | 0, _ => rfl
   | 1, _ => rfl
   | 2, _ => rfl
   | 3, _ => rfl
 · have : q = i := by omega
   subst this
   rw [zf7 (by omega), show q - q = 0 by omega, Nat.zero_mul, Nat.zero_add]
   match j, hj with
   | 0, _ => rfl
   | 1, _ => rfl
   | 2, _ => rfl
   | 3, _ => rfl
structure Nd where
 k : Int
 n : Int
 s : List UInt8
 b : List UInt8
def yvp (l : List Nd) (i : Nat) : Nd := l.getD i ⟨0, 0, [], []⟩
def yqk {α : Type} (all : List α) : List UInt8 -> List α
 | [] => []
 | x :: b => if h : x.toNat < all.length then all[all.length - 1 - x.toNat] :: yqk all b else yqk all b
def sumI : List Int -> Int
 | [] => 0
 | x :: l => x + sumI l
def sizN (all : List Int) (d : Nd) : Int := 1 + ((d.s.length / 8 : Nat) : Int) + sumI (yqk all d.b)
def ymk (l : List Nd) : Nat -> List Int
 | 0 => []
 | i + 1 => ymk l i ++ [sizN (ymk l i) (yvp l i)]
def sizD (l : List Nd) (i : Nat) : Int := sizN (ymk l i) (yvp l i)
def yjv (l : List Nd) (i : Nat) : Prop := sizD l i <= 2000 /\ (yvp l i).s.length <= 9000 /\ (yvp l i).b.length <= 20 /\ l.length <= 40
def ylm (l : List Nd) (i : Nat) : Prop := ∀ j, j < i -> yjv l j
instance (l : List Nd) (i : Nat) : Decidable (yjv l i) := by unfold yjv; exact inferInstance
instance (l : List Nd) (i : Nat) : Decidable (ylm l i) := by unfold ylm; exact Nat.decidableBallLT i fun j _ => yjv l j
theorem yk2 (a : List CV) (v : CV) {p j : Nat} (hp : p < a.length + 1) (hj : j < 4) :
   zid std (zc9 p a.length) (cv1 std (zbj a p) j) (zby .dead [.int .i64 v.kd, .int .u64 v.nn, .str v.tx, .lst 4 (zcx v) (zer v)] ((p - a.length) * 4 + j)) = cv1 std (zbj (a ++ [v]) p) j := by
 by_cases h : p < a.length
 · have e : zbj (a ++ [v]) p = zbj a p := by
     rw [zbj, zbj, List.getD_eq_getElem?_getD, List.getD_eq_getElem?_getD, List.getElem?_append_left h]
   rw [zel h, e, show p - a.length = 0 by omega, Nat.zero_mul, Nat.zero_add]
   match j, hj with
   | 0, _ => rfl
   | 1, _ => rfl
   | 2, _ => rfl
   | 3, _ => rfl
 · have e : zbj (a ++ [v]) p = v := by
     have : p = a.length := by omega
     subst this
     rw [zbj, List.getD_eq_getElem?_getD, List.getElem?_append_right (Nat.le_refl _)]
     simp
   rw [zf7 h, e, show p - a.length = 0 by omega, Nat.zero_mul, Nat.zero_add]
   match j, hj with
   | 0, _ => rfl
   | 1, _ => rfl
   | 2, _ => rfl
   | 3, _ => rfl
theorem zna : ∀ (a : List CV) (p j : Nat), a.length <= p -> zek a p j = dflC j
 | [], p, j, _ => by rw [zek]
 | v :: a, 0, j, h => by simp at h
 | v :: a, p + 1, j, h => by rw [zek]; exact zna a p j (by simpa using h)
theorem zgu (a : List CV) (v : CV) {p j : Nat} (hp : p < a.length + 1) (hj : j < 4) :
   zid std (zc9 p a.length) (zek a p j) (zby .dead [.int .i64 v.kd, .int .u64 v.nn, .str v.tx, .lst 4 (zcx v) (zer v)] ((p - a.length) * 4 + j)) = zek (a ++ [v]) p j := by
 rw [zb4 (a ++ [v]) p j (by simpa using hp), <- zd6 _ j hj, <- yk2 a v hp hj]
 by_cases h : p < a.length
 · rw [zb4 a p j h, <- zd6 _ j hj]
 · rw [zf7 h, zna a p j (by omega)]
   have : p - a.length = 0 := by omega
   rw [this, Nat.zero_mul, Nat.zero_add]
   match j, hj with
   | 0, _ => rfl
   | 1, _ => rfl
   | 2, _ => rfl
   | 3, _ => rfl
def cb (s : List UInt8) (i : Nat) : Nat := (s.getD i 0).toNat
theorem yfu (s : List UInt8) (i : Nat) : cb s i < 256 := UInt8.toNat_lt _
def lng (s : List UInt8) : Nat -> Nat -> Nat -> Nat × Nat × Nat
 | 0, _, _ => (0, 0, 4)
 | f + 1, i, n =>
   if s.length <= i then (0, 0, 3)
   else if i = 9 /\ 1 < cb s i then (0, 0, 4)
   else if 128 <= cb s i then lng s f (i + 1) (n + cb s i % 128 * 2 ^ (7 * i))
   else if 0 < cb s i \/ i = 0 then (n + cb s i % 128 * 2 ^ (7 * i), i + 1, 0)
   else (0, 0, 4)
def zb8 (s : List UInt8) : Int := (lng s 10 0 0).1
def zei (s : List UInt8) : Int := (lng s 10 0 0).2.1
def zdo (s : List UInt8) : Int := (lng s 10 0 0).2.2
def zjv (s : List UInt8) (x : Nat × Nat) : Prop := x.1 <= s.length /\ x.1 <= 9 /\ x.2 < 2 ^ (7 * x.1) /\ lng s (10 - x.1) x.1 x.2 = lng s 10 0 0
theorem yqf {n m i : Nat} (hn : n < 2 ^ i) (hm : m * 2 ^ i < 2 ^ 64) (hn' : n < 2 ^ 64) : bor .u64 (n : Int) ((m * 2 ^ i : Nat) : Int) = ((n + m * 2 ^ i : Nat) : Int) := by
 have e : n ||| m * 2 ^ i = n + m * 2 ^ i := by
   have := Nat.shiftLeft_add_eq_or_of_lt hn m
   rw [Nat.shiftLeft_eq] at this
   rw [Nat.or_comm, <- this, Nat.add_comm]
 have hlt : n ||| m * 2 ^ i < 2 ^ 64 := Nat.or_lt_two_pow hn' hm
 unfold bor
 rw [show IntKind.u64.bits = 64 from rfl, BitVec.ofInt_natCast, BitVec.ofInt_natCast, BitVec.toNat_or, BitVec.toNat_ofNat, BitVec.toNat_ofNat, Nat.mod_eq_of_lt hn', Nat.mod_eq_of_lt hm, ygt, <- e]
 omega
theorem yry {c i : Nat} (h : c * 2 ^ (7 * i) < 2 ^ 64) (hi : i <= 9) : ykp .u64 (c : Int) (7 * (i : Int)) = ((c * 2 ^ (7 * i) : Nat) : Int) := by
 unfold ykp
 rw [show (7 * (i : Int)).toNat = 7 * i by omega, show IntKind.u64.bits = 64 from rfl, Nat.min_eq_left (by omega), ygt]
 have e : ((c : Int) * 2 ^ (7 * i)) = ((c * 2 ^ (7 * i) : Nat) : Int) := by simp
 rw [e]
 omega
theorem pow9 {i : Nat} (hi : i <= 9) : 2 ^ (7 * i) <= 2 ^ 63 := Nat.pow_le_pow_right (by decide) (by omega)
theorem zq2 {c i n : Nat} (hi : i <= 9) (hn : n < 2 ^ (7 * i)) (hc : c < 256) (h9 : ¬ (i = 9 /\ 1 < c)) : n + c % 128 * 2 ^ (7 * i) < 2 ^ (7 * (i + 1)) /\ n + c % 128 * 2 ^ (7 * i) < 2 ^ 64 /\ c % 128 * 2 ^ (7 * i) < 2 ^ 64 /\ n < 2 ^ 64 := by
 have h1 := pow9 hi
 have e : 2 ^ (7 * (i + 1)) = 128 * 2 ^ (7 * i) := by rw [show 7 * (i + 1) = 7 + 7 * i by omega, Nat.pow_add]
 have h2 : c % 128 * 2 ^ (7 * i) <= 127 * 2 ^ (7 * i) := Nat.mul_le_mul_right _ (by omega)
 rw [e]
 refine ⟨by omega, ?_⟩
 by_cases h : i = 9
 · subst h
   have : c <= 1 := by omega
   have h3 : c % 128 * 2 ^ (7 * 9) <= 1 * 2 ^ (7 * 9) := Nat.mul_le_mul_right _ (by omega)
   omega
 · have h3 : 2 ^ (7 * i) <= 2 ^ 56 := Nat.pow_le_pow_right (by decide) (by omega)
   omega
theorem yt8 {c i n : Nat} (hi : i <= 9) (hn : n < 2 ^ (7 * i)) (hc : c < 256) (h9 : ¬ (i = 9 /\ 1 < c)) : bor .u64 (n : Int) (ykp .u64 ((c : Int) % 128) (7 * (i : Int))) = ((n + c % 128 * 2 ^ (7 * i) : Nat) : Int) := by
 obtain ⟨_, _, h3, h4⟩ := zq2 hi hn hc h9
 rw [show ((c : Int) % 128) = ((c % 128 : Nat) : Int) by omega, yry h3 hi, yqf hn h3 h4]
theorem zju {s : List UInt8} {i n : Nat} (hx : zjv s (i, n)) : lng s 10 0 0 = if s.length <= i then (0, 0, 3)
   else if i = 9 /\ 1 < cb s i then (0, 0, 4)
   else if 128 <= cb s i then lng s (9 - i) (i + 1) (n + cb s i % 128 * 2 ^ (7 * i))
   else if 0 < cb s i \/ i = 0 then (n + cb s i % 128 * 2 ^ (7 * i), i + 1, 0)
   else (0, 0, 4) := by
 obtain ⟨h1, h2, h3, h4⟩ := hx
 rw [<- h4]
 simp only at h2 |-
 rw [show 10 - i = (9 - i) + 1 by omega, lng]
theorem zwp {s : List UInt8} {a b c : Nat} (h : lng s 10 0 0 = (a, b, c)) : (a : Int) = zb8 s /\ (b : Int) = zei s /\ (c : Int) = zdo s := by
 unfold zb8 zei zdo
 rw [h]
 exact ⟨rfl, rfl, rfl⟩
theorem yxe {s : List UInt8} {i n : Nat} (hx : zjv s (i, n)) (h : (i : Int) = (s.length : Int)) : 0 = zb8 s /\ 0 = zei s /\ 3 = zdo s := by
 have := zju hx
 rw [if_pos (by omega)] at this
 exact zwp this
theorem zlg (s : List UInt8) (i : Nat) : ((s.getD i 0).toNat : Int) % 18446744073709551616 = (cb s i : Int) := by
 have := yfu s i
 unfold cb at *
 omega
theorem yxd {s : List UInt8} {i n : Nat} (hx : zjv s (i, n)) (h : ¬ (i : Int) = (s.length : Int)) (h9 : (i : Int) = 9) (hc : 1 < ((s.getD i 0).toNat : Int) % 18446744073709551616) : 0 = zb8 s /\ 0 = zei s /\ 4 = zdo s := by
 have := zju hx
 have h1 := hx.1
 rw [zlg] at hc
 simp only at h1
 rw [if_neg (by omega), if_pos ⟨by omega, by omega⟩] at this
 exact zwp this
theorem yt7 {s : List UInt8} {i n : Nat} (hx : zjv s (i, n)) (h9 : ¬ (i = 9 /\ 1 < cb s i)) : bor .u64 (n : Int) (ykp .u64 ((((s.getD i 0).toNat : Int) % 18446744073709551616).tmod 128) ((7 * (i : Int) + 9223372036854775808) % 18446744073709551616 - 9223372036854775808)) = ((n + cb s i % 128 * 2 ^ (7 * i) : Nat) : Int) := by
 have h1 := hx.2.1
 have h2 := hx.2.2.1
 simp only at h1 h2
 rw [zlg, Int.tmod_eq_emod_of_nonneg (by omega), show (7 * (i : Int) + 9223372036854775808) % 18446744073709551616 - 9223372036854775808 = 7 * (i : Int) by omega]
 exact yt8 h1 h2 (yfu s i) h9
theorem yxc {s : List UInt8} {i n : Nat} (hx : zjv s (i, n)) (h : ¬ (i : Int) = (s.length : Int)) (h9 : ¬ (i = 9 /\ 1 < cb s i)) (hm : 128 <= ((s.getD i 0).toNat : Int) % 18446744073709551616) : zjv s (i + 1, n + cb s i % 128 * 2 ^ (7 * i)) /\ 10 - (i + 1) + 1 <= 10 - i /\ i <= 8 := by
 have h0 := zju hx
 have h1 := hx.2.1
 have h2 := hx.2.2.1
 have h3 := hx.1
 rw [zlg] at hm
 simp only at h1 h2 h3
 rw [if_neg (by omega), if_neg h9, if_pos (by omega)] at h0
 refine ⟨⟨?_, ?_, (zq2 h1 h2 (yfu s i) h9).1, ?_⟩, by omega, by omega⟩
 · simp only; omega
 · simp only; omega
 · simp only
   rw [h0]; congr 1; omega
theorem yis {s : List UInt8} {i n : Nat} (hx : zjv s (i, n)) (h : ¬ (i : Int) = (s.length : Int)) (h9 : ¬ (i = 9 /\ 1 < cb s i)) (hm : ((s.getD i 0).toNat : Int) % 18446744073709551616 < 128) (hp : 0 < cb s i \/ i = 0) :
   bor .u64 (n : Int) (ykp .u64 ((((s.getD i 0).toNat : Int) % 18446744073709551616).tmod 128) ((7 * (i : Int) + 9223372036854775808) % 18446744073709551616 - 9223372036854775808)) = zb8 s /\
     ((i : Int) + 1 + 9223372036854775808) % 18446744073709551616 - 9223372036854775808 = zei s /\ 0 = zdo s := by
 have h0 := zju hx
 have h1 := hx.2.1
 have h3 := hx.1
 rw [zlg] at hm
 simp only at h1 h3
 rw [if_neg (by omega), if_neg h9, if_neg (by omega), if_pos hp] at h0
 obtain ⟨e1, e2, e3⟩ := zwp h0
 rw [yt7 hx h9]
 exact ⟨e1, by rw [<- e2]; omega, e3⟩
theorem yt9 {s : List UInt8} {i n : Nat} (hx : zjv s (i, n)) (h : ¬ (i : Int) = (s.length : Int)) (h9 : ¬ (i = 9 /\ 1 < cb s i)) (hm : ((s.getD i 0).toNat : Int) % 18446744073709551616 < 128) (hp : ((s.getD i 0).toNat : Int) % 18446744073709551616 <= 0)
   (h1 : ¬ ((i : Int) + 1 + 9223372036854775808) % 18446744073709551616 - 9223372036854775808 = 1) : 0 = zb8 s /\ 0 = zei s /\ 4 = zdo s := by
 have h0 := zju hx
 have h2 := hx.2.1
 have h3 := hx.1
 rw [zlg] at hm hp
 simp only at h2 h3
 rw [if_neg (by omega), if_neg h9, if_neg (by omega), if_neg (by omega)] at h0
 exact zwp h0
def lngA (L : za9) (s : List UInt8) : Nat -> St -> Option Ann := fun id st => match id with
 | 0 => some ⟨Nat × Nat, fun x => [(6, .int .i64 (L zbu (L Prod.fst x))), (5, .int .u64 (L zbu (L Prod.snd x)))], fun _ => [], [0], [],
     fun x => L2 L zjv s x, fun x => L (fun x : Nat × Nat => 10 - x.1) x⟩
 | _ => none
def yoc (L : za9) : zbn := (94, fun xs => match xs with | [.str s] => some (True, .tup [.int .u64 (L zb8 s), .int .i64 (L zei s), .int .i64 (L zdo s)]) | _ => none)
theorem yir : zay Tryz.prog (yoc std) := by
 intro xs p r h hp
 dsimp only [yoc] at h |-
 split at h <;> cases h
 try simp only [L2, L3, std] at hp |-
 rename_i s
 refine za5 (T := tt) (S := noS) (lo := noA) (lb := fun L => lngA L s) 5 (fn := Tryz.f94) rfl rfl (by kernel_rfl) (by kernel_rfl) rfl zaa (zcc _) (by kernel_rfl) ?_
 intro L P' Q' hL hP hQ
 (cbv; try simp only [syT, true_and, and_true])
 refine ⟨fun x hx => ?_, ⟨(0, 0), ?_⟩⟩
 · cbv at hx
   obtain ⟨i, n⟩ := x
   (cbv; try simp only [syT, true_and, and_true])
   obtain ⟨m, hm'⟩ : ∃ m, m = n + cb s i % 128 * 2 ^ (7 * i) := ⟨_, rfl⟩
   refine ⟨fun h => ?_, fun h => ⟨?_, fun h9 => ⟨fun hc => ?_, fun hc => ⟨?_, ?_, fun hm => ⟨(i + 1, m), ?_⟩, fun hm => ⟨fun hp => ?_, fun hp => ⟨fun h1 => ?_, fun h1 => ?_⟩⟩⟩⟩,
     fun h9 => ⟨?_, ?_, fun hm => ⟨(i + 1, m), ?_⟩, fun hm => ⟨fun hp => ?_, fun hp => ⟨fun h1 => ?_, fun h1 => ?_⟩⟩⟩⟩⟩
   · (subst hL; subst hQ; simp only [L2, L3, std] at *; try simp only [syS, reduceCtorEq, Int.reduceToNat, Int.reduceAdd, Int.reduceSub] at *)
     exact yxe hx h
   · (subst hL; subst hQ; simp only [L2, L3, std] at *; try simp only [syS, reduceCtorEq, Int.reduceToNat, Int.reduceAdd, Int.reduceSub] at *)
     have := hx.1
     simp only at this
     omega
   · (subst hL; subst hQ; simp only [L2, L3, std] at *; try simp only [syS, reduceCtorEq, Int.reduceToNat, Int.reduceAdd, Int.reduceSub] at *)
     exact yxd hx h h9 hc
   · (subst hL; subst hQ; simp only [L2, L3, std] at *; try simp only [syS, reduceCtorEq, Int.reduceToNat, Int.reduceAdd, Int.reduceSub] at *)
     decide
   · (subst hL; subst hQ; simp only [L2, L3, std] at *; try simp only [syS, reduceCtorEq, Int.reduceToNat, Int.reduceAdd, Int.reduceSub] at *)
     have := hx.2.1
     simp only at this
     rw [Int.emod_eq_of_lt (by omega) (by omega)]
     omega
   · (cbv; try simp only [syT, true_and, and_true])
     (subst hL; subst hQ; simp only [L2, L3, std] at *; try simp only [syS, reduceCtorEq, Int.reduceToNat, Int.reduceAdd, Int.reduceSub] at *)
     rw [zlg] at hc
     exact absurd hm (by rw [zlg]; omega)
   · (subst hL; subst hQ; simp only [L2, L3, std] at *; try simp only [syS, reduceCtorEq, Int.reduceToNat, Int.reduceAdd, Int.reduceSub] at *)
     rw [zlg] at hc
     exact yis hx h (by omega) hm (by rw [zlg] at hp; omega)
   · (subst hL; subst hQ; simp only [L2, L3, std] at *; try simp only [syS, reduceCtorEq, Int.reduceToNat, Int.reduceAdd, Int.reduceSub] at *)
     rw [zlg] at hc
     have := hx.2.1
     simp only at this
     exact yis hx h (by omega) hm (by omega)
   · (subst hL; subst hQ; simp only [L2, L3, std] at *; try simp only [syS, reduceCtorEq, Int.reduceToNat, Int.reduceAdd, Int.reduceSub] at *)
     rw [zlg] at hc
     exact yt9 hx h (by omega) hm hp h1
   · (subst hL; subst hQ; simp only [L2, L3, std] at *; try simp only [syS, reduceCtorEq, Int.reduceToNat, Int.reduceAdd, Int.reduceSub] at *)
     decide
   · (subst hL; subst hQ; simp only [L2, L3, std] at *; try simp only [syS, reduceCtorEq, Int.reduceToNat, Int.reduceAdd, Int.reduceSub] at *)
     have := hx.2.1
     simp only at this
     rw [Int.emod_eq_of_lt (by omega) (by omega)]
     omega
   · (cbv; try simp only [syT, true_and, and_true])
     (subst hL; subst hQ; simp only [L2, L3, std] at *; try simp only [syS, reduceCtorEq, Int.reduceToNat, Int.reduceAdd, Int.reduceSub] at *)
     obtain ⟨q1, q2, q3⟩ := yxc hx h (by omega) hm
     rw [yt7 hx (by omega), hm']
     exact ⟨rfl, by omega, q1, q2⟩
   · (subst hL; subst hQ; simp only [L2, L3, std] at *; try simp only [syS, reduceCtorEq, Int.reduceToNat, Int.reduceAdd, Int.reduceSub] at *)
     exact yis hx h (by omega) hm (by rw [zlg] at hp; omega)
   · (subst hL; subst hQ; simp only [L2, L3, std] at *; try simp only [syS, reduceCtorEq, Int.reduceToNat, Int.reduceAdd, Int.reduceSub] at *)
     have := hx.2.1
     simp only at this
     exact yis hx h (by omega) hm (by omega)
   · (subst hL; subst hQ; simp only [L2, L3, std] at *; try simp only [syS, reduceCtorEq, Int.reduceToNat, Int.reduceAdd, Int.reduceSub] at *)
     exact yt9 hx h (by omega) hm hp h1
 · (cbv; try simp only [syT, true_and, and_true])
   (subst hL; subst hQ; simp only [L2, L3, std] at *; try simp only [syS, reduceCtorEq, Int.reduceToNat, Int.reduceAdd, Int.reduceSub] at *)
   exact ⟨Nat.zero_le _, by omega, by simp, rfl⟩
end Sy
end Go.Proofs.YtcgikjfloloekaaGreatDoor
