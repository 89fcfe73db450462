/-What the functions of package sum, and the reference's, compute: one contract a function. Chapters 1 and 2: what their functions compute, as summaries for the executor. Chapters 1 and 2: CRC of parts, and the examples that each law of these chapters asks first. Chapter 8 (frame): what its functions compute. Chapter 8 (frame), plain: what a frame's text begins with. Chapter 8 (frame): Next, Parse, the document's Next. The law FrameBytes: any frame as bytes, and back. Chapter 18 (backoff): Delay, Next, Reset; its example. Go's strings.Builder: what it writes. Chapter 7 (codec): values, in plain Lean, and as the executor sees them. Chapter 7 (codec): how deep, bare, the same. Chapter 7 (codec): bare, the same; the document's. Chapter 7 (codec): the same; the document's bare, same. Chapter 7 (codec): writings. Chapter 7 (codec): values made, put; the chapter's example. Chapter 7 (codec), its law: values made of nodes. Chapter 1: the number that a text begins with; of what is written it is what was written.-/
import Derived.Test.YtcgikjfloloekaaGreatDoorM3
import Derived.RegionTactic
import Derived.BigRegion
import Derived.Lib.Builder
namespace Go.Proofs.YtcgikjfloloekaaGreatDoor
open Go.RowKit
def step1 (n : Nat) : Nat := if n % 2 = 1 then n / 2 ^^^ 2197175160 else n / 2
def stepN : Nat → Nat → Nat
  | 0, n => n
  | i + 1, n => stepN i (step1 n)
theorem stepN_succ (i n : Nat) : stepN (i + 1) n = step1 (stepN i n) := by
  induction i generalizing n with
  | zero => rfl
  | succ i ih => rw [stepN, ih]; rfl
def stepB (n : Nat) (c : UInt8) : Nat := stepN 8 (n ^^^ c.toNat)
def crcRun (n : Nat) (l : List UInt8) : Nat := l.foldl stepB n
def crcL (l : List UInt8) : Nat := 4294967295 - crcRun 4294967295 l
theorem step1_lt {n : Nat} (h : n < 4294967296) : step1 n < 4294967296 := by
  unfold step1
  split
  · exact Nat.xor_lt_two_pow (n := 32) (by omega) (by omega)
  · omega
theorem stepN_lt (i : Nat) {n : Nat} (h : n < 4294967296) : stepN i n < 4294967296 := by
  induction i generalizing n with
  | zero => exact h
  | succ i ih => exact ih (step1_lt h)
theorem xor_byte_lt {n : Nat} (c : UInt8) (h : n < 4294967296) : n ^^^ c.toNat < 4294967296 :=
  Nat.xor_lt_two_pow (n := 32) h (by have := c.toNat_lt; omega)
theorem stepB_lt {n : Nat} (c : UInt8) (h : n < 4294967296) : stepB n c < 4294967296 := stepN_lt 8 (xor_byte_lt c h)
theorem crcRun_lt (l : List UInt8) {n : Nat} (h : n < 4294967296) : crcRun n l < 4294967296 := by
  induction l generalizing n with
  | nil => exact h
  | cons c l ih => exact ih (stepB_lt c h)
theorem foldl_snoc {α β : Type} (f : β → α → β) (b : β) (l : List α) (a : α) : (l ++ [a]).foldl f b = f (l.foldl f b) a := by simp
theorem crcRun_append (n : Nat) (a b : List UInt8) : crcRun n (a ++ b) = crcRun (crcRun n a) b := by simp [crcRun]
theorem crcRun_take (n : Nat) (l : List UInt8) (k : Nat) (h : k < l.length) : crcRun n (l.take (k + 1)) = stepB (crcRun n (l.take k)) l[k] := by
  rw [List.take_succ_eq_append_getElem h]; exact foldl_snoc stepB n _ _
theorem and1_u32 (x : Nat) (h : x < 4294967296) : bits .and .u32 (x : Int) 1 = (x : Int) % 2 := by
  have := u32_and_nat x 1 h (by decide)
  rw [nat_mask1, show ((x % 2 : Nat) : Int) = (x : Int) % 2 by omega] at this
  exact this
theorem xor_u32_lit (a b : Nat) (ha : a < 4294967296) (hb : b < 4294967296) (u v : Int) (hu : u = a) (hv : v = b) : bits .xor .u32 u v = ((a ^^^ b : Nat) : Int) := by
  subst hu; subst hv; exact u32_xor_nat a b ha hb
theorem half_xor (x : Nat) (h : x < 4294967296) : bits .xor .u32 ((x : Int) / 2) 2197175160 = ((x / 2 ^^^ 2197175160 : Nat) : Int) :=
  xor_u32_lit _ _ (by omega) (by omega) _ _ (by omega) (by omega)
theorem xor_byte_u32 (x : Nat) (c : UInt8) (h : x < 4294967296) : bits .xor .u32 (x : Int) (c.toNat : Int) = ((x ^^^ c.toNat : Nat) : Int) :=
  u32_xor_nat x c.toNat h (by have := c.toNat_lt; omega)
theorem not32 (x : Nat) (h : x < 4294967296) : 4294967295 ^^^ x = 4294967295 - x := by
  have h1 : (BitVec.allOnes 32 ^^^ BitVec.ofNat 32 x).toNat = (~~~ (BitVec.ofNat 32 x)).toNat := by rw [BitVec.allOnes_xor]
  rw [BitVec.toNat_xor, BitVec.toNat_not, BitVec.toNat_allOnes, BitVec.toNat_ofNat, Nat.mod_eq_of_lt (by omega)] at h1
  exact h1
theorem not_u32 (x : Nat) (h : x < 4294967296) : bits .xor .u32 IntKind.u32.max (x : Int) = ((4294967295 - x : Nat) : Int) := by
  rw [← not32 x h]
  exact xor_u32_lit 4294967295 x (by omega) h _ _ (by decide) rfl
set_option maxRecDepth 100000 in
set_option maxHeartbeats 400000 in
theorem step_any (n : Nat) (c : UInt8) (w : World) (hn : n < 4294967296) :
    Calls Tryz.prog 118 #[.int .u32 n, .int .u8 c.toNat] w fun e w' => e = .returned (.int .u32 (stepB n c)) ∧ w = w' := by
  have hx := xor_byte_u32 n c hn
  have hlt := xor_byte_lt c hn
  obtain ⟨s, hs⟩ : ∃ s, s = n ^^^ c.toNat := ⟨_, rfl⟩
  rw [← hs] at hx hlt
  have Hs := Lib.hid hs
  clear hs
  go_enter Tryz.func118, Tryz.ntmps118
  go_wp2
  refine wp_scope_again 0 (fun a' w' => w = w' ∧ ∃ (k x : Nat), Hid (x = stepN k s) ∧ k < 8 ∧ x < 4294967296 ∧ ∃ u1 u2 u3 u4 u6 u7 u8 u9 u10 u11 u12 u13 u14 u15 u16 u17 u18 u19 u20 u21 u22 : Value, a' = ⟨#[.int .u32 (x : Int), u1, u2, u3, u4, .int .i64 (k : Int), u6, u7, u8, u9, u10, u11, u12, u13, u14, u15, u16, u17, u18, u19, u20, u21, u22], []⟩) (fun a' _ => 8 - (intOf (a'.tmps.getD 5 undef)).toNat) rfl ?_ ?_
  · rintro a' w' ⟨rfl, k, x, hx, hk, hxl, u1, u2, u3, u4, u6, u7, u8, u9, u10, u11, u12, u13, u14, u15, u16, u17, u18, u19, u20, u21, u22, rfl⟩
    have h1 := and1_u32 x hxl
    have h2 := half_xor x hxl
    by_cases hodd : x % 2 = 1
    · have e1 : ((x : Int) % 2 == 1) = true := by rw [beq_iff_eq]; omega
      have e2 : stepN (k + 1) s = x / 2 ^^^ 2197175160 := by rw [stepN_succ, ← hx.out, step1, if_pos hodd]
      have e3 : x / 2 ^^^ 2197175160 < 4294967296 := by rw [← e2]; exact stepN_lt _ hlt
      have E2 := Lib.hid e2
      clear e2 hodd
      go_wp2
      · go_step3
        exact ⟨rfl, ⟨rfl, k + 1, _, Lib.hid E2.out.symm, by omega, e3, _, _, _, _, _, _, _, _, _, _, _, _, _, _, _, _, _, _, _, _, _, by go_num⟩, by simp [intOf] <;> omega⟩
      · go_ret
        refine ⟨?_, rfl⟩
        have : stepB n c = _ := (show stepB n c = stepN (k + 1) s by rw [stepB, Hs.out]; congr 1; omega).trans E2.out
        rw [this]; rfl
    · have e1 : ((x : Int) % 2 == 1) = false := by rw [beq_eq_false_iff_ne]; omega
      have e2 : stepN (k + 1) s = x / 2 := by rw [stepN_succ, ← hx.out, step1, if_neg hodd]
      have e3 : x / 2 < 4294967296 := by omega
      have E2 := Lib.hid e2
      clear e2 hodd
      go_wp2
      · go_step3
        exact ⟨rfl, ⟨rfl, k + 1, _, Lib.hid E2.out.symm, by omega, e3, _, _, _, _, _, _, _, _, _, _, _, _, _, _, _, _, _, _, _, _, _, by go_num⟩, by simp [intOf] <;> omega⟩
      · go_ret
        refine ⟨?_, rfl⟩
        have : stepB n c = _ := (show stepB n c = stepN (k + 1) s by rw [stepB, Hs.out]; congr 1; omega).trans E2.out
        rw [this]; rfl
  · intro hP
    go_wp2
    go_step3
    simp only [Exit.then]
    apply_assumption
    exact hP.out _ _ ⟨rfl, 0, s, Lib.hid rfl, by omega, hlt, _, _, _, _, _, _, _, _, _, _, _, _, _, _, _, _, _, _, _, _, _, rfl⟩
def Parts (w : World) (g : Nat) (ps : List (List UInt8)) : Prop := ∀ j (h : j < ps.length), w.cell? ⟨g, j, none⟩ = some (.string ⟨ps[j].toArray⟩)
def flat (ps : List (List UInt8)) : List UInt8 := ps.flatten
theorem flat_take (ps : List (List UInt8)) (k : Nat) (h : k < ps.length) : (ps.take (k + 1)).flatten = (ps.take k).flatten ++ ps[k] := by
  rw [List.take_succ_eq_append_getElem h, List.flatten_append]; simp only [List.flatten_cons, List.flatten_nil, List.append_nil]
set_option maxRecDepth 100000 in
set_option maxHeartbeats 800000 in
theorem crc_any (g cap : Nat) (ps : List (List UInt8)) (w : World) (hp : Parts w g ps) (hlen : ps.length ≤ 1000) (hl : ∀ p ∈ ps, p.length ≤ 9223372036854775807) :
    Calls Tryz.prog 89 #[.slice (some ⟨g, 0, none⟩) ps.length cap] w fun e w' => e = .returned (.int .u32 (crcL ps.flatten)) ∧ w = w' := by
  have Hp := Lib.hid hp
  have Hl := Lib.hid hl
  clear hp hl
  go_enter Tryz.func89, Tryz.ntmps89
  go_wp2
  go_loop [3, 9] (fun n i => ∃ k x : Nat, k ≤ ps.length ∧ x < 4294967296 ∧ Hid (x = crcRun 4294967295 (ps.take k).flatten) ∧ i = .int .i64 k ∧ n = .int .u32 x) (fun _ i => ps.length - (intOf i).toNat)
  case atStart => exact ⟨0, 4294967295, by omega, by omega, Lib.hid rfl, rfl, rfl⟩
  case round =>
    obtain ⟨k, x, hk, hx, hX, rfl, rfl⟩ := hrel
    by_cases hlt : k < ps.length
    · obtain ⟨p, hpk⟩ : ∃ p, p = ps[k] := ⟨_, rfl⟩
      have hc := Hp.out k hlt
      rw [← hpk] at hc
      have hpl := Hl.out p (by rw [hpk]; exact List.getElem_mem hlt)
      have Hpk := Lib.hid hpk
      clear hpk
      go_wp2
      go_loop [3, 15] (fun n i => ∃ j y : Nat, j ≤ p.length ∧ y < 4294967296 ∧ Hid (y = crcRun x (p.take j)) ∧ i = .int .i64 j ∧ n = .int .u32 y) (fun _ i => p.length - (intOf i).toNat)
      case atStart => exact ⟨0, x, by omega, hx, Lib.hid rfl, rfl, rfl⟩
      case round =>
        obtain ⟨j, y, hj, hy, hY, rfl, rfl⟩ := hrel
        by_cases hjt : j < p.length
        · obtain ⟨z, hz⟩ : ∃ z, z = stepB y p[j] := ⟨_, rfl⟩
          have hs := Lib.hid (fun w => step_any y p[j] w hy)
          rw [← hz] at hs
          have hzl : z < 4294967296 := by rw [hz]; exact stepB_lt _ hy
          have hZ : Hid (z = crcRun x (p.take (j + 1))) := Lib.hid (by rw [crcRun_take x p j hjt, hz, hY.out])
          clear hz
          go_wp2_with fail
          refine (hs.out _).mono ?_
          rintro e w' ⟨rfl, rfl⟩
          go_wp2_with fail
          go_round
          case rel => exact ⟨j + 1, z, by omega, hzl, hZ, by go_num, by go_num⟩
          case measure => simp [intOf] <;> omega
        · go_wp2_with fail
          go_round
          case rel => exact ⟨k + 1, y, by omega, hy, Lib.hid (by rw [flat_take ps k hlt, crcRun_append, ← hX.out, ← Hpk.out, hY.out, List.take_of_length_le (by omega)]), by go_num, by go_num⟩
          case measure => simp [intOf] <;> omega
    · have hn := not_u32 x hx
      go_wp2
      go_ret
      exact ⟨ret_int (by rw [hX.out, List.take_of_length_le (by omega)]; rfl), rfl⟩
set_option maxRecDepth 100000 in
set_option maxHeartbeats 800000 in
theorem turned_any (l : List UInt8) (w : World) (hl : l.length ≤ 1000000) :
    Calls Tryz.prog 88 #[.string ⟨l.toArray⟩] w fun e w' => e = .returned (.string ⟨l.reverse.toArray⟩) ∧ Below w.heap.size w w' := by
  have hcv := fun w => run_bytes_of_string (P := Tryz.prog) w 9 139 5 ⟨l.toArray⟩ Tryz.underlying9 Tryz.underlying139 Tryz.underlying5
  have hge := grownCap_ge w l.length 0 5
  have Hge := Lib.hid hge
  clear hge
  go_enter Tryz.func88, Tryz.ntmps88
  go_wp2
  go_loopw [10] (fun i wr => ∃ k : Nat, k ≤ l.length / 2 ∧ i = .int .i64 k ∧ Row wr w.heap.size 5 l.length (fun t => if t < k ∨ l.length - k ≤ t then bcell (l.reverse.getD t 0) else bcell (l.getD t 0)) ∧ Below w.heap.size w wr) (fun i _ => l.length / 2 - (intOf i).toNat)
  case atStart =>
    refine ⟨0, by omega, rfl, ((Row.bytes w _ l _).drewN 1).congr fun t ht => ?_, ((Below.refl _ _).alloc (Nat.le_refl _) _).drew⟩
    rw [if_neg (by omega)]
  case round =>
    obtain ⟨k, hk, rfl, hrow, hb⟩ := hrel
    clear hcv
    by_cases hlt : k < l.length / 2
    · obtain ⟨m, hm⟩ : ∃ m, m = l.length - 1 - k := ⟨_, rfl⟩
      have c1 := hrow.cell (i := k) (by omega)
      have c2 := hrow.cell (i := m) (by omega)
      have f1 := hrow.frozen (i := k) (by omega)
      have f2 := hrow.frozen (i := m) (by omega)
      have hw1 : IntKind.i64.wrap ((l.length : Int) - 1) = (l.length : Int) - 1 := by rw [IntKind.wrap_i64]; omega
      have hw2 : IntKind.i64.wrap ((l.length : Int) - 1 - (k : Int)) = (m : Int) := by rw [IntKind.wrap_i64]; omega
      have hw3 : (k : Int) < (l.length : Int) := by omega
      have hw4 : (m : Int) < (l.length : Int) := by omega
      rw [if_neg (by omega)] at c1 c2
      obtain ⟨x, hx⟩ : ∃ x, x = l.getD k 0 := ⟨_, rfl⟩
      obtain ⟨y, hy⟩ : ∃ y, y = l.getD m 0 := ⟨_, rfl⟩
      rw [← hx] at c1
      rw [← hy] at c2
      unfold bcell at c1 c2
      have hkm : m ≠ k := by omega
      have c3 : (wr.setCell ⟨w.heap.size, k, none⟩ (.int .u8 (y.toNat : Int))).cell? ⟨w.heap.size, m, none⟩ = some (.int .u8 (y.toNat : Int)) := by
        rw [World.cell?_setCell_other _ _ _ _ (by intro h; injection h; omega)]; exact c2
      have Hkm := Lib.hid hkm
      clear hkm
      have Hrow := Lib.hid hrow
      have Hb := Lib.hid hb
      have Hm := Lib.hid hm
      have Hx := Lib.hid hx
      have Hy := Lib.hid hy
      clear hrow hb hm hx hy
      go_wp2
      go_region
      go_wp2
      go_roundw
      case rel =>
        refine ⟨k + 1, by omega, by go_num, ?_, ?_⟩
        · refine ((((Hrow.out.set k (.int .u8 (y.toNat : Int))).set m (.int .u8 (x.toNat : Int)))).drewN 1).congr fun t ht => ?_
          have hmo := Hm.out
          by_cases h1 : t = m
          · subst h1
            rw [if_pos rfl, if_pos (by omega), Hx.out]
            have : l.length - 1 - t = k := by omega
            simp [bcell, ht, this, show k < l.length by omega]
          · rw [if_neg h1]
            by_cases h2 : t = k
            · subst h2
              rw [if_pos rfl, if_pos (by omega), Hy.out, hmo]
              have : l.length - 1 - t < l.length := by omega
              simp [bcell, ht, this]
            · rw [if_neg h2]
              by_cases h3 : t < k ∨ l.length - k ≤ t
              · rw [if_pos h3, if_pos (by omega)]
              · rw [if_neg h3, if_neg (by omega)]
        · exact ((Hb.out.setCell (p := ⟨w.heap.size, k, none⟩) (Nat.le_refl _) _).setCell (p := ⟨w.heap.size, m, none⟩) (Nat.le_refl _) _).drew
      case measure => simp [intOf] <;> omega
    · have hk2 : k = l.length / 2 := by omega
      have hconv := fun cc => conv_Row (P := Tryz.prog) (src := 139) (dst := 9) (cap := cc) l.reverse Tryz.underlying139 Tryz.underlying5 Tryz.underlying9 hrow (by simp) (fun i hi => by
        have hi' : i < l.length := by simpa using hi
        by_cases h : i < k ∨ l.length - k ≤ i
        · rw [if_pos h]; simp [hi']
        · rw [if_neg h]
          have h2 : l.length - 1 - i = i := by omega
          simp [hi', h2])
      clear hrow hk2
      go_wp2
      go_ret
      exact ⟨rfl, hb⟩
theorem parts_lit (ps : List (List UInt8)) (cs : Array Value) (hcs : cs = (ps.map str).toArray) (w : World) (t : TypeId) : Parts (w.alloc (.cells cs t)) w.heap.size ps := by
  subst hcs
  intro j hj
  rw [cell_of_row _ _ _ _ _ _ (heap_alloc_new w _)]
  simp [hj, str]
theorem crc_lit (ps : List (List UInt8)) (cs : Array Value) (hcs : cs = (ps.map str).toArray) (n : Nat) (hn : n = ps.length) (hlen : ps.length ≤ 1000) (hl : ∀ p ∈ ps, p.length ≤ 9223372036854775807) (r : Nat) (hr : r = crcL ps.flatten) (g : Nat) (w : World) (hg : g = w.heap.size) :
    Calls Tryz.prog 89 #[.slice (some ⟨g, 0, none⟩) n n] (w.alloc (.cells cs 9)) fun e w' => e = .returned (.int .u32 r) ∧ w.alloc (.cells cs 9) = w' := by
  subst hn hr hg
  exact crc_any _ _ ps _ (parts_lit ps cs hcs w _) hlen hl
def le4 (n : Nat) : List UInt8 := [UInt8.ofNat n, UInt8.ofNat (n / 256), UInt8.ofNat (n / 65536), UInt8.ofNat (n / 16777216)]
def markL (l : List UInt8) : List UInt8 := l ++ le4 (crcL l)
theorem le4_eq (n : Nat) : (putL n (cl8 4)).reverse = le4 n := by
  have : cl8 4 = 4 := by decide
  rw [this]
  simp [putL, le4]
theorem crcL_lt (l : List UInt8) : crcL l < 4294967296 := by unfold crcL; omega
theorem markL_length (l : List UInt8) : (markL l).length = l.length + 4 := by simp [markL, le4]
set_option maxRecDepth 100000 in
set_option maxHeartbeats 800000 in
theorem mark_any (l : List UInt8) (w : World) (hl : l.length ≤ 1000000) :
    Calls Tryz.prog 58 #[.string ⟨l.toArray⟩] w fun e w' => e = .returned (.string ⟨(markL l).toArray⟩) ∧ Below w.heap.size w w' := by
  obtain ⟨c, hc⟩ : ∃ c, c = crcL l := ⟨_, rfl⟩
  have hcl := crcL_lt l
  rw [← hc] at hcl
  have C1 := Lib.hid (crc_lit [l] #[.string ⟨l.toArray⟩] rfl 1 rfl (by simp) (by simp; omega) c (by simp [hc]))
  obtain ⟨p, hp⟩ : ∃ p, p = putL c (cl8 4) := ⟨_, rfl⟩
  have P1 := Lib.hid (put_is c 4 p (by omega) hp)
  have hpl : p.length ≤ 1000000 := by rw [hp, putL_length]; have := cl8_le 4; omega
  have hpl4 : p.reverse.length ≤ 100 := by rw [List.length_reverse, hp, putL_length]; have := cl8_le 4; omega
  have T1 := Lib.hid (fun w => turned_any p w hpl)
  have hr : markL l = l ++ p.reverse := by rw [markL, ← hc, ← le4_eq, hp]
  have Hr := Lib.hid hr
  clear hr hp hc
  go_enter Tryz.func58, Tryz.ntmps58
  go_wp2_with fail
  refine (C1.out _ w rfl).mono ?_
  rintro e w1 ⟨rfl, rfl⟩
  go_wp2_with fail
  refine (P1.out _).mono ?_
  rintro e w2 ⟨rfl, hb2⟩
  go_wp2_with fail
  refine (T1.out _).mono ?_
  rintro e w3 ⟨rfl, hb3⟩
  go_wp2
  go_ret
  exact ⟨ret_str Hr.out.symm, (((Below.refl _ _).alloc (Nat.le_refl _) _).trans' hb2).trans' hb3⟩
set_option maxRecDepth 100000 in
set_option maxHeartbeats 800000 in
theorem check_short (l : List UInt8) (w : World) (hl : l.length < 4) :
    Calls Tryz.prog 93 #[.string ⟨l.toArray⟩] w fun e w' => e = .returned (.tuple #[.string ⟨#[]⟩, .int .i64 3]) ∧ w = w' := by
  go_enter Tryz.func93, Tryz.ntmps93
  go_wp2
  go_ret2
  exact ⟨rfl, rfl⟩
set_option maxRecDepth 100000 in
set_option maxHeartbeats 800000 in
theorem check_ok (l : List UInt8) (w : World) (hl : l.length ≤ 1000000) :
    Calls Tryz.prog 93 #[.string ⟨(markL l).toArray⟩] w fun e w' => e = .returned (.tuple #[.string ⟨l.toArray⟩, .int .i64 0]) ∧ Below w.heap.size w w' := by
  obtain ⟨m, hm⟩ : ∃ m, m = markL l := ⟨_, rfl⟩
  have M1 := Lib.hid (fun w => mark_any l w hl)
  have hlen := markL_length l
  rw [← hm] at M1 hlen ⊢
  have ht : m.take l.length = l := by rw [hm, markL]; simp
  have h4 : 4 ≤ m.length := by omega
  have h5 : m.length ≤ 2000000 := by omega
  have hl4 : ((m.length : Int) - 4) = l.length := by omega
  clear hm hlen
  go_enter Tryz.func93, Tryz.ntmps93
  go_wp2_with fail
  refine (M1.out _).mono ?_
  rintro e w1 ⟨rfl, hb⟩
  go_wp2
  go_ret2
  exact ⟨rfl, hb⟩
set_option maxRecDepth 100000 in
set_option maxHeartbeats 800000 in
theorem check_bad (l t : List UInt8) (w : World) (hl : l.length ≤ 1000000) (h4 : 4 ≤ l.length) (ht : t = l.take (l.length - 4)) (hne : markL t ≠ l) :
    Calls Tryz.prog 93 #[.string ⟨l.toArray⟩] w fun e w' => e = .returned (.tuple #[.string ⟨#[]⟩, .int .i64 9]) ∧ Below w.heap.size w w' := by
  have htl : t.length ≤ 1000000 := by rw [ht, List.length_take]; omega
  have M1 := Lib.hid (fun w => mark_any t w htl)
  obtain ⟨m, hm⟩ : ∃ m, m = markL t := ⟨_, rfl⟩
  rw [← hm] at M1 hne
  have hb : (m == l) = false := by rw [beq_eq_false_iff_ne]; exact hne
  obtain ⟨k, hk⟩ : ∃ k, k = l.length - 4 := ⟨_, rfl⟩
  have hl4 : ((l.length : Int) - 4) = k := by omega
  rw [← hk] at ht
  have ht' := ht.symm
  clear hm hk ht
  go_enter Tryz.func93, Tryz.ntmps93
  go_wp2_with fail
  refine (M1.out _).mono ?_
  rintro e w1 ⟨rfl, hb⟩
  go_wp2
  go_ret2
  exact ⟨rfl, hb⟩
end Go.Proofs.YtcgikjfloloekaaGreatDoor
namespace Go.Proofs.YtcgikjfloloekaaGreatDoor
namespace Sy
open Go Go.RowKit
set_option maxRecDepth 100000
def putZ (e n : Int) : List UInt8 := putL e.toNat (cl8 n)
def getZ (l : List UInt8) : Int := getL l
def putOk (e n : Int) : Prop := 0 ≤ e ∧ e < 18446744073709551616 ∧ -9223372036854775808 ≤ n ∧ n ≤ 9223372036854775807
def getOk (l : List UInt8) : Prop := 1 ≤ l.length ∧ l.length ≤ 8
def upto (n : Nat) (l : List UInt8) : Prop := l.length ≤ n
def chkE (l : List UInt8) : Int := if l.length < 4 then 3 else if markL (l.take (l.length - 4)) = l then 0 else 9
def chkS (l : List UInt8) : List UInt8 := if l.length < 4 then [] else if markL (l.take (l.length - 4)) = l then l.take (l.length - 4) else []
def put_s (L : Seal) : Ent1 := (59, fun xs => match xs with | [.int .u64 e, .int .i64 n] => some (L2 L putOk e n, .str (L2 L putZ e n)) | _ => none)
def get_s (L : Seal) : Ent1 := (92, fun xs => match xs with | [.str l] => some (L getOk l, .tup [.int .u64 (L getZ l), .int .i64 0]) | _ => none)
def mark_s (L : Seal) : Ent1 := (58, fun xs => match xs with | [.str l] => some (L2 L upto 1000000 l, .str (L markL l)) | _ => none)
def check_s (L : Seal) : Ent1 := (93, fun xs => match xs with | [.str l] => some (L2 L upto 1000000 l, .tup [.str (L chkS l), .int .i64 (L chkE l)]) | _ => none)
theorem tup2_r {x y : AV} {v u : Value} (hx : ∀ h D, R h D noMu x v) (hy : ∀ h D, R h D noMu y u) : ∀ h D, R h D noMu (.tup [x, y]) (.tuple #[v, u]) := by
  intro h D
  refine .tup _ _ rfl ?_
  intro i z t hz ht
  match i with
  | 0 => simp at hz ht; subst hz ht; exact hx h D
  | 1 => simp at hz ht; subst hz ht; exact hy h D
  | i + 2 => simp at hz
theorem int_r (k : IntKind) (n : Int) : ∀ h D, R h D noMu (.int k n) (.int k n) := fun _ _ => .int k n
theorem nat_of {e : Int} (h : 0 ≤ e) : ∃ n : Nat, e = n := ⟨e.toNat, by omega⟩
theorem put_good : Good Tryz.prog (put_s std) := by
  intro xs p r h hp
  dsimp only [put_s] at h ⊢
  split at h <;> cases h
  rename_i e n
  obtain ⟨h0, h1, h2, h3⟩ : putOk e n := hp
  obtain ⟨k, rfl⟩ := nat_of h0
  exact ac_of_below (fn := Tryz.f59) rfl rfl (by kernel_rfl) (args2 (tells_int _ _) (tells_int _ _)) (fun h D => str_r h D _ _) (fun w => put_any k n w (by omega))
theorem get_good : Good Tryz.prog (get_s std) := by
  intro xs p r h hp
  dsimp only [get_s] at h ⊢
  split at h <;> cases h
  rename_i l
  obtain ⟨h1, h8⟩ : getOk l := hp
  exact ac_of_below (fn := Tryz.f92) rfl rfl (by kernel_rfl) (args1 (tells_str _)) (tup2_r (int_r _ _) (int_r _ _)) (below_of_same fun w => get_any l w h1 h8)
theorem mark_good : Good Tryz.prog (mark_s std) := by
  intro xs p r h hp
  dsimp only [mark_s] at h ⊢
  split at h <;> cases h
  exact ac_of_below (fn := Tryz.f58) rfl rfl (by kernel_rfl) (args1 (tells_str _)) (fun h D => str_r h D _ _) (fun w => mark_any _ w hp)
theorem check_good : Good Tryz.prog (check_s std) := by
  intro xs p r h hp
  dsimp only [check_s] at h ⊢
  split at h <;> cases h
  rename_i l
  have hl : l.length ≤ 1000000 := hp
  show ACalls _ _ _ (.tup [.str (chkS l), .int .i64 (chkE l)])
  by_cases h4 : l.length < 4
  · rw [chkS, chkE, if_pos h4, if_pos h4]
    exact ac_of_below (fn := Tryz.f93) rfl rfl (by kernel_rfl) (args1 (tells_str _)) (tup2_r (fun h D => str_r h D _ _) (int_r _ _)) (below_of_same fun w => check_short l w h4)
  · rw [chkS, chkE, if_neg h4, if_neg h4]
    by_cases hm : markL (l.take (l.length - 4)) = l
    · rw [if_pos hm, if_pos hm]
      refine ac_of_below (fn := Tryz.f93) rfl rfl (by kernel_rfl) (args1 (tells_str _)) (tup2_r (fun h D => str_r h D _ _) (int_r _ _)) (fun w => ?_)
      have := check_ok (l.take (l.length - 4)) w (by simp; omega)
      rwa [hm] at this
    · rw [if_neg hm, if_neg hm]
      exact ac_of_below (fn := Tryz.f93) rfl rfl (by kernel_rfl) (args1 (tells_str _)) (tup2_r (fun h D => str_r h D _ _) (int_r _ _)) (fun w => check_bad l _ w hl (by omega) rfl hm)
end Sy
end Go.Proofs.YtcgikjfloloekaaGreatDoor
namespace Go.Proofs.YtcgikjfloloekaaGreatDoor
namespace Sy
open Go Go.RowKit
set_option maxRecDepth 100000
set_option linter.unusedSimpArgs false
set_option linter.unusedVariables false
def stepZ (n c : Int) : Int := stepB n.toNat (UInt8.ofNat c.toNat)
def stepOk (n c : Int) : Prop := 0 ≤ n ∧ n < 4294967296 ∧ 0 ≤ c ∧ c < 256
def step_s (L : Seal) : Ent1 := (118, fun xs => match xs with | [.int .u32 n, .int .u8 c] => some (L2 L stepOk n c, .int .u32 (L2 L stepZ n c)) | _ => none)
theorem step_good : Good Tryz.prog (step_s std) := by
  intro xs p r h hp
  dsimp only [step_s] at h ⊢
  split at h <;> cases h
  try simp only [L2, L3, std] at hp ⊢
  rename_i n c
  obtain ⟨h0, h1, h2, h3⟩ : stepOk n c := hp
  obtain ⟨k, rfl⟩ := nat_of h0
  obtain ⟨b, rfl⟩ := nat_of h2
  have e : ((UInt8.ofNat b).toNat : Int) = b := by rw [UInt8.toNat_ofNat']; omega
  have := fun w => step_any k (UInt8.ofNat b) w (by omega)
  rw [e] at this
  exact ac_of_below (fn := Tryz.f118) rfl rfl (by kernel_rfl) (args2 (tells_int _ _) (tells_int _ _)) (int_r _ _) (below_of_same this)
def flatN (p : Nat → List UInt8) : Nat → List UInt8
  | 0 => []
  | n + 1 => flatN p n ++ p n
def crc2 (p : Nat → List UInt8) (k : Int) (j : Nat) : Int := crcRun 4294967295 (flatN p k.toNat ++ (p k.toNat).take j)
def crcA (n : Nat) (p : Nat → List UInt8) (L : Seal) : Nat → St → Option Ann := fun id s => match id with
  | 0 => some ⟨Nat, fun k => [(9, .int .i64 (L natI k)), (3, .int .u32 (L3 L crc2 p (L natI k) 0))], fun _ => [], [7, 8], [], fun k => L2 L Nat.le k n, fun k => L2 L Nat.sub n k⟩
  | 2 => withStr s 13 fun l => withInt s 9 fun k => some ⟨Nat, fun j => [(15, .int .i64 (L natI j)), (3, .int .u32 (L3 L crc2 p k j))], fun _ => [], [7, 8, 9, 5, 13, 14], [], fun j => L2 L (fun (j : Nat) (l : List UInt8) => j ≤ l.length) j l, fun j => L2 L (fun (j : Nat) (l : List UInt8) => l.length - j) j l⟩
  | _ => none
theorem crc_ac (n : Nat) (p : Nat → List UInt8) (hn : n ≤ 1000) (hp : ∀ i, i < n → (p i).length ≤ 1000000) : ACalls Tryz.prog 89 [.lst 1 n (fun i _ => .str (p i))] (.int .u32 (crcL (flatN p n))) := by
  refine acalls_L (T := tt) (S := fun L => sumOf [step_s L]) (lo := crcA n p) (lb := noA) 5 (fn := Tryz.f89) rfl rfl (by kernel_rfl) (by kernel_rfl) rfl tt_ok (sumOf_ok ⟨step_good, trivial⟩) (by kernel_rfl) ?_
  intro L P' Q' hL hP hQ
  (cbv; try simp only [sat_need, sat_must, sat_ite, sat_done, sat_yes, sat_ex, sat_all, sat_sup, sat_and, sat_fail, true_and, and_true])
  refine ⟨⟨0, ?_⟩, fun x hx => ?_⟩
  · (cbv; try simp only [sat_need, sat_must, sat_ite, sat_done, sat_yes, sat_ex, sat_all, sat_sup, sat_and, sat_fail, true_and, and_true])
    (subst hL; subst hQ; simp only [L2, L3, std]; try simp only [sySet, syB, reduceCtorEq, forall_const, Int.reduceToNat, Int.reduceAdd, Int.reduceSub, Int.cast_ofNat_Int, Int.toNat_natCast, Nat.le_eq, Nat.sub_eq, ne_eq, implies_true, wadd, wsub, wmul, Nat.succ_eq_add_one])
    exact ⟨rfl, Nat.zero_le n⟩
  · (cbv; try simp only [sat_need, sat_must, sat_ite, sat_done, sat_yes, sat_ex, sat_all, sat_sup, sat_and, sat_fail, true_and, and_true])
    refine ⟨fun h => ⟨?_, ⟨0, ?_⟩, fun y hy => ?_⟩, fun h => ?_⟩
    · (subst hL; subst hQ; simp only [L2, L3, std] at *; try simp only [sySet, syB, reduceCtorEq, forall_const, Int.reduceToNat, Int.reduceAdd, Int.reduceSub, Int.cast_ofNat_Int, Int.toNat_natCast, Nat.le_eq, Nat.sub_eq, ne_eq, implies_true, wadd, wsub, wmul, Nat.succ_eq_add_one] at *)
      omega
    · (cbv; try simp only [sat_need, sat_must, sat_ite, sat_done, sat_yes, sat_ex, sat_all, sat_sup, sat_and, sat_fail, true_and, and_true])
      (subst hL; subst hQ; simp only [L2, L3, std] at *; try simp only [sySet, syB, reduceCtorEq, forall_const, Int.reduceToNat, Int.reduceAdd, Int.reduceSub, Int.cast_ofNat_Int, Int.toNat_natCast, Nat.le_eq, Nat.sub_eq, ne_eq, implies_true, wadd, wsub, wmul, Nat.succ_eq_add_one] at *)
      exact Nat.zero_le _
    · cbv at hy
      (cbv; try simp only [sat_need, sat_must, sat_ite, sat_done, sat_yes, sat_ex, sat_all, sat_sup, sat_and, sat_fail, true_and, and_true])
      refine ⟨fun h' => ⟨?_, ?_, ⟨y + 1, ?_⟩⟩, fun h' => ⟨x + 1, ?_⟩⟩
      · (subst hL; subst hQ; simp only [L2, L3, std] at *; try simp only [sySet, syB, reduceCtorEq, forall_const, Int.reduceToNat, Int.reduceAdd, Int.reduceSub, Int.cast_ofNat_Int, Int.toNat_natCast, Nat.le_eq, Nat.sub_eq, ne_eq, implies_true, wadd, wsub, wmul, Nat.succ_eq_add_one] at *)
        omega
      · (subst hL; subst hQ; simp only [L2, L3, std] at *; try simp only [sySet, syB, reduceCtorEq, forall_const, Int.reduceToNat, Int.reduceAdd, Int.reduceSub, Int.cast_ofNat_Int, Int.toNat_natCast, Nat.le_eq, Nat.sub_eq, ne_eq, implies_true, wadd, wsub, wmul, Nat.succ_eq_add_one] at *)
        have := crcRun_lt (flatN p x ++ (p x).take y) (n := 4294967295) (by omega)
        have h8 := ((p x).getD y 0).toNat_lt
        exact ⟨Int.natCast_nonneg _, by simp only [crc2, Int.toNat_natCast]; omega, by omega, by omega⟩
      · (cbv; try simp only [sat_need, sat_must, sat_ite, sat_done, sat_yes, sat_ex, sat_all, sat_sup, sat_and, sat_fail, true_and, and_true])
        (subst hL; subst hQ; simp only [L2, L3, std] at *; try simp only [sySet, syB, reduceCtorEq, forall_const, Int.reduceToNat, Int.reduceAdd, Int.reduceSub, Int.cast_ofNat_Int, Int.toNat_natCast, Nat.le_eq, Nat.sub_eq, ne_eq, implies_true, wadd, wsub, wmul, Nat.succ_eq_add_one] at *)
        have e : crcRun 4294967295 (flatN p x ++ (p x).take (y + 1)) = stepB (crcRun 4294967295 (flatN p x ++ (p x).take y)) ((p x).getD y 0) := by
          rw [List.take_succ_eq_append_getElem (by omega), ← List.append_assoc, crcRun, foldl_snoc, getD_get _ _ _ (by omega)]
          rfl
        have := hp x (by omega)
        refine ⟨?_, by omega, by omega, by omega⟩
        simp only [stepZ, crc2, Int.toNat_natCast]
        rw [e, UInt8.ofNat_toNat]
      · (cbv; try simp only [sat_need, sat_must, sat_ite, sat_done, sat_yes, sat_ex, sat_all, sat_sup, sat_and, sat_fail, true_and, and_true])
        (subst hL; subst hQ; simp only [L2, L3, std] at *; try simp only [sySet, syB, reduceCtorEq, forall_const, Int.reduceToNat, Int.reduceAdd, Int.reduceSub, Int.cast_ofNat_Int, Int.toNat_natCast, Nat.le_eq, Nat.sub_eq, ne_eq, implies_true, wadd, wsub, wmul, Nat.succ_eq_add_one] at *)
        refine ⟨?_, by omega, by omega, by omega⟩
        have : y = (p x).length := by omega
        subst this
        simp only [crc2, Int.toNat_natCast, List.take_length]
        rw [show flatN p (x + 1) = flatN p x ++ p x from rfl]
        simp
    · (subst hL; subst hQ; simp only [L2, L3, std] at *; try simp only [sySet, syB, reduceCtorEq, forall_const, Int.reduceToNat, Int.reduceAdd, Int.reduceSub, Int.cast_ofNat_Int, Int.toNat_natCast, Nat.le_eq, Nat.sub_eq, ne_eq, implies_true, wadd, wsub, wmul, Nat.succ_eq_add_one] at *)
      have : x = n := by omega
      subst this
      have := crcRun_lt (flatN p x) (n := 4294967295) (by omega)
      simp only [crc2, Int.toNat_natCast, List.take_zero, List.append_nil]
      exact not_u32 _ this
def shortOk (n : Int) : Prop := 0 ≤ n ∧ n < 18446744073709551616
def shortZ (n : Int) : List UInt8 := shortL n.toNat
def short_s (L : Seal) : Ent1 := (87, fun xs => match xs with | [.int .u64 n] => some (L shortOk n, .str (L shortZ n)) | _ => none)
theorem short_good : Good Tryz.prog (short_s std) := by
  intro xs p r h hp
  dsimp only [short_s] at h ⊢
  split at h <;> cases h
  try simp only [L2, L3, std] at hp ⊢
  rename_i n
  obtain ⟨h0, h1⟩ : shortOk n := hp
  obtain ⟨k, rfl⟩ := nat_of h0
  exact ac_of_below (fn := Tryz.f87) rfl rfl (by kernel_rfl) (args1 (tells_int _ _)) (fun h D => str_r h D _ _) (fun w => short_any k w (by omega))
def crc2_s (L : Seal) : Ent1 := (89, fun xs => match xs with
  | [.lst 1 2 get] => match get 0 0 with
    | .str a => match get 1 0 with
      | .str b => some (L (fun g : Nat → Nat → AV => ∀ i j, i < 2 → j < 1 → g i j = .str (lget [] [a, b] i)) get ∧ L2 L upto 1000000 a ∧ L2 L upto 1000000 b, .int .u32 (L (fun l => (crcL l : Int)) (L2 L scat a b)))
      | _ => none
    | _ => none
  | _ => none)
theorem ac_lst1 {P : Program} {f : FuncId} {sz n : Nat} {g g' : Nat → Nat → AV} {r : AV} (e : ∀ i j, i < n → j < sz → g i j = g' i j) (h : ACalls P f [.lst sz n g'] r) : ACalls P f [.lst sz n g] r := by
  intro D w vs hD ⟨h1, h2⟩
  refine h D w vs hD ⟨h1, fun i x v hx hv => ?_⟩
  match i with
  | 0 => cases hx; exact lst_same (h2 0 _ v rfl hv) e
  | i + 1 => simp at hx
theorem crc2_good : Good Tryz.prog (crc2_s std) := by
  intro xs p r h hp
  dsimp only [crc2_s] at h ⊢
  split at h
  · rename_i get
    cases ea : get 0 0 with
    | str a =>
      cases eb : get 1 0 with
      | str b =>
        simp only [ea, eb] at h
        cases h
        obtain ⟨h1, h2, h3⟩ := hp
        have := crc_ac 2 (fun i => lget [] [a, b] i) (by omega) (fun i hi => by
          match i, hi with
          | 0, _ => exact h2
          | 1, _ => exact h3)
        exact ac_lst1 (g' := fun i _ => .str (lget [] [a, b] i)) h1 this
      | _ => simp only [ea, eb] at h; cases h
    | _ => simp only [ea] at h; cases h
  · cases h
theorem awake01_ac : ACalls Tryz.prog 131 [] (.bool true) := by
  refine acalls_L (T := tt) (S := fun L => sumOf [short_s L, put_s L]) (lo := noA) (lb := noA) 5 (fn := Tryz.f131) rfl rfl (by kernel_rfl) (by kernel_rfl) rfl tt_ok (sumOf_ok ⟨short_good, put_good, trivial⟩) (by kernel_rfl) ?_
  (intro L P1 Q1 hL hP hQ; cbv; subst hL; simp only [L2, L3, std, sat_need, sat_must, sat_ite, sat_done, sat_yes, sat_ex, sat_all, sat_sup, sat_and, sat_fail]; subst hQ)
  (simp only [sySet, syB, reduceCtorEq, forall_const, Int.reduceToNat, Int.reduceAdd, Int.reduceSub, Int.cast_ofNat_Int, Int.toNat_natCast, Nat.le_eq, Nat.sub_eq, ne_eq, implies_true, wadd, wsub, wmul, Nat.succ_eq_add_one])
  exact ⟨by unfold shortOk; omega, fun _ => ⟨by unfold putOk; omega, by decide +kernel⟩, by rw [shortZ, show (300 : Int).toNat = 300 from rfl, shortL_big (by decide), shortL_small (by decide)]; rfl⟩
def tru (f : Nat) : Ent1 := (f, fun xs => match xs with | [] => some (True, .bool true) | _ => none)
theorem tru_good {P : Program} {f : Nat} (h : ACalls P f [] (.bool true)) : Good P (tru f) := by
  intro xs p r h' hp
  match xs with
  | [] => cases h'; exact h
  | x :: xs => cases h'
theorem Awake01_ac : ACalls Tryz.prog 124 [] (.bool true) := by
  refine acalls_L (T := tt) (S := fun L => sumOf [tru 131]) (lo := noA) (lb := noA) 5 (fn := Tryz.f124) rfl rfl (by kernel_rfl) (by kernel_rfl) rfl tt_ok (sumOf_ok ⟨tru_good awake01_ac, trivial⟩) (by kernel_rfl) ?_
  (intro L P1 Q1 hL hP hQ; cbv; subst hL; simp only [L2, L3, std, sat_need, sat_must, sat_ite, sat_done, sat_yes, sat_ex, sat_all, sat_sup, sat_and, sat_fail]; subst hQ)
  (simp only [sySet, syB, reduceCtorEq, forall_const, Int.reduceToNat, Int.reduceAdd, Int.reduceSub, Int.cast_ofNat_Int, Int.toNat_natCast, Nat.le_eq, Nat.sub_eq, ne_eq, implies_true, wadd, wsub, wmul, Nat.succ_eq_add_one])
theorem awake02_ac : ACalls Tryz.prog 134 [] (.bool true) := by
  refine acalls_L (T := tt) (S := fun L => sumOf [tru 124, crc2_s L]) (lo := noA) (lb := noA) 5 (fn := Tryz.f134) rfl rfl (by kernel_rfl) (by kernel_rfl) rfl tt_ok (sumOf_ok ⟨tru_good Awake01_ac, crc2_good, trivial⟩) (by kernel_rfl) ?_
  (intro L P1 Q1 hL hP hQ; cbv; subst hL; simp only [L2, L3, std, sat_need, sat_must, sat_ite, sat_done, sat_yes, sat_ex, sat_all, sat_sup, sat_and, sat_fail]; subst hQ)
  (simp only [sySet, syB, reduceCtorEq, forall_const, Int.reduceToNat, Int.reduceAdd, Int.reduceSub, Int.cast_ofNat_Int, Int.toNat_natCast, Nat.le_eq, Nat.sub_eq, ne_eq, implies_true, wadd, wsub, wmul, Nat.succ_eq_add_one])
  refine ⟨⟨fun i j hi hj => ?_, by simp [upto, nthS], by simp [upto, nthS]⟩, by decide +kernel⟩
  match i, hi with
  | 0, _ => rfl
  | 1, _ => rfl
theorem Awake02_ac : ACalls Tryz.prog 126 [] (.bool true) := by
  refine acalls_L (T := tt) (S := fun L => sumOf [tru 134]) (lo := noA) (lb := noA) 5 (fn := Tryz.f126) rfl rfl (by kernel_rfl) (by kernel_rfl) rfl tt_ok (sumOf_ok ⟨tru_good awake02_ac, trivial⟩) (by kernel_rfl) ?_
  (intro L P1 Q1 hL hP hQ; cbv; subst hL; simp only [L2, L3, std, sat_need, sat_must, sat_ite, sat_done, sat_yes, sat_ex, sat_all, sat_sup, sat_and, sat_fail]; subst hQ)
  (simp only [sySet, syB, reduceCtorEq, forall_const, Int.reduceToNat, Int.reduceAdd, Int.reduceSub, Int.cast_ofNat_Int, Int.toNat_natCast, Nat.le_eq, Nat.sub_eq, ne_eq, implies_true, wadd, wsub, wmul, Nat.succ_eq_add_one])
end Sy
end Go.Proofs.YtcgikjfloloekaaGreatDoor
namespace Go.Proofs.YtcgikjfloloekaaGreatDoor
namespace Sy
open Go Go.RowKit
set_option maxRecDepth 100000
set_option linter.unusedSimpArgs false
set_option linter.unusedVariables false
def headT (k e : Int) (b : List UInt8) : List UInt8 := [79, 70, 1] ++ [UInt8.ofNat k.toNat] ++ putZ e 8 ++ putZ b.length 4 ++ b
def byE (k : Int) (b : List UInt8) : Int := if k < 1 ∨ 255 < k then 10 else if 8192 < b.length then 5 else 0
def byT (k e : Int) (b : List UInt8) : List UInt8 := if byE k b = 0 then markL (headT k e b) else []
def byOk (e : Int) (b : List UInt8) : Prop := 0 ≤ e ∧ e < 18446744073709551616 ∧ b.length ≤ 9223372036854775807
def size_s (L : Seal) : Ent1 := (90, fun xs => match xs with | [.int .i64 n] => some (L (fun n : Int => 0 ≤ n ∧ n ≤ 1000000) n, .int .i64 (L (fun n : Int => n + 20) n)) | _ => none)
theorem size_good : Good Tryz.prog (size_s std) := by
  intro xs p r h hp
  dsimp only [size_s] at h ⊢
  split at h <;> cases h
  try simp only [L2, L3, std] at hp ⊢
  exact size_ac _ hp.1 hp.2
def by_s (L : Seal) : Ent1 := (35, fun xs => match xs with | [.agg [.int .i64 k, .int .u64 e, .str b]] => some (L2 L byOk e b, .tup [.str (L3 L byT k e b), .int .i64 (L2 L byE k b)]) | _ => none)
theorem putZ_len (e n : Int) : (putZ e n).length = cl8 n := putL_length _ _
theorem by_good : Good Tryz.prog (by_s std) := by
  intro xs p r h hp
  dsimp only [by_s] at h ⊢
  split at h <;> cases h
  try simp only [L2, L3, std] at hp ⊢
  rename_i k e b
  show ACalls _ _ _ (.tup [.str (byT k e b), .int .i64 (byE k b)])
  refine acalls_L (T := tt) (S := fun L => sumOf [put_s L, mark_s L]) (lo := noA) (lb := noA) 5 (fn := Tryz.f35) rfl rfl (by kernel_rfl) (by kernel_rfl) rfl tt_ok (sumOf_ok ⟨put_good, mark_good, trivial⟩) (by kernel_rfl) ?_
  (intro L P1 Q1 hL hP hQ; cbv; subst hL; simp only [L2, L3, std, sat_need, sat_must, sat_ite, sat_done, sat_yes, sat_ex, sat_all, sat_sup, sat_and, sat_fail]; subst hQ)
  (simp only [sySet, syB, reduceCtorEq, forall_const, Int.reduceToNat, Int.reduceAdd, Int.reduceSub, Int.cast_ofNat_Int, Int.toNat_natCast, Nat.le_eq, Nat.sub_eq, ne_eq, implies_true, wadd, wsub, wmul, Nat.succ_eq_add_one])
  have e1 : (bytesOf 1 fun i => (AV.int .u8 (nthI [k % 256] (0 + i))).toI) = [UInt8.ofNat (k % 256).toNat] := rfl
  obtain ⟨h0, h1, h2⟩ : byOk e b := hp
  simp only [e1]
  refine ⟨fun h => ?_, fun h => ⟨fun h' => ?_, fun h' => ⟨fun hb => ?_, fun hb => ?_⟩⟩⟩
  · have hE : byE k b = 10 := if_pos (by omega)
    rw [byT, hE]; exact ⟨rfl, rfl⟩
  · have hE : byE k b = 10 := if_pos (by omega)
    rw [byT, hE]; exact ⟨rfl, rfl⟩
  · have hE : byE k b = 5 := by rw [byE, if_neg (by omega), if_pos (by omega)]
    rw [byT, hE]; exact ⟨rfl, rfl⟩
  · have hE : byE k b = 0 := by rw [byE, if_neg (by omega), if_neg (by omega)]
    rw [byT, hE, if_pos rfl, headT, show k % 256 = k by omega, show (b.length : Int) % 18446744073709551616 = b.length by omega]
    refine ⟨⟨by omega, fun i _ => ⟨_, rfl⟩⟩, by simp, ⟨h0, h1, by omega, by omega⟩, ?_, ⟨by omega, by omega, by omega, by omega⟩, ?_, ?_, ?_, rfl, rfl⟩
    all_goals simp [upto, putZ_len, putL_length, cl8]; try omega
end Sy
end Go.Proofs.YtcgikjfloloekaaGreatDoor
namespace Go.Proofs.YtcgikjfloloekaaGreatDoor
namespace Sy
open Go Go.RowKit
theorem putL_snoc : ∀ (c n : Nat), putL n (c + 1) = putL (n / 256) c ++ [UInt8.ofNat n]
  | 0, n => by simp [putL]
  | c + 1, n => by
    rw [putL, putL_snoc c n]
    show _ = (UInt8.ofNat (n / 256 / 256 ^ c) :: putL (n / 256) c) ++ _
    rw [Nat.div_div_eq_div_mul, ← Nat.pow_succ']
    rfl
theorem getL_putL : ∀ (c n : Nat), n < 256 ^ c → getL (putL n c) = n
  | 0, n, h => by simp at h; subst h; rfl
  | c + 1, n, h => by
    rw [putL_snoc, getL_snoc, getL_putL c (n / 256) (by rw [Nat.pow_succ] at h; omega), UInt8.toNat_ofNat']
    omega
theorem take_app {α : Type} (a b : List α) (n : Nat) (h : a.length = n) : (a ++ b).take n = a := by subst h; simp
theorem drop_app {α : Type} (a b : List α) (n : Nat) (h : a.length = n) : (a ++ b).drop n = b := by subst h; simp
def nxN (s : List UInt8) : Int := getZ ((s.take 16).drop 12)
def nxE (s : List UInt8) : Int := if s.length < 20 then 3 else if s.take 3 ≠ [79, 70, 1] then 4 else if (s.getD 3 0).toNat = 0 then 10 else if 8192 < nxN s then 5 else if (s.length : Int) < nxN s + 20 then 3 else chkE (s.take (nxN s + 20).toNat)
def nxK (s : List UInt8) : Int := if nxE s = 0 then (s.getD 3 0).toNat else 0
def nxP (s : List UInt8) : Int := if nxE s = 0 then getZ ((s.take 12).drop 4) else 0
def nxB (s : List UInt8) : List UInt8 := if nxE s = 0 then (s.take (nxN s + 16).toNat).drop 16 else []
def nxR (s : List UInt8) : List UInt8 := if nxE s = 0 then s.drop (nxN s + 20).toNat else []
theorem nxN_bound (s : List UInt8) : 0 ≤ nxN s ∧ nxN s < 4294967296 := by
  have h := getL_lt ((s.take 16).drop 12)
  have h' : 256 ^ ((s.take 16).drop 12).length ≤ 256 ^ 4 := Nat.pow_le_pow_right (by omega) (by simp; omega)
  unfold nxN getZ; omega
theorem nxP_bound (s : List UInt8) : 0 ≤ getZ ((s.take 12).drop 4) ∧ getZ ((s.take 12).drop 4) < 18446744073709551616 := by
  have h := getL_lt ((s.take 12).drop 4)
  have h' : 256 ^ ((s.take 12).drop 4).length ≤ 256 ^ 8 := Nat.pow_le_pow_right (by omega) (by simp; omega)
  unfold getZ; omega
theorem nx_bad (s : List UInt8) (he : nxE s ≠ 0) : nxK s = 0 ∧ nxP s = 0 ∧ nxB s = [] ∧ nxR s = [] := by simp [nxK, nxP, nxB, nxR, he]
theorem headT_length (k e : Int) (b : List UInt8) : (headT k e b).length = b.length + 16 := by
  simp [headT, putZ_len, cl8]; omega
structure FrameIs (t : List UInt8) (k e : Int) (b r : List UInt8) : Prop where
  E : nxE t = 0
  K : nxK t = k
  P : nxP t = e
  B : nxB t = b
  R : nxR t = r
  N : nxN t = b.length
  len : t.length = b.length + 20 + r.length
theorem byE_ok {k : Int} {b : List UInt8} (h : byE k b = 0) : 1 ≤ k ∧ k ≤ 255 ∧ b.length ≤ 8192 := by
  unfold byE at h
  split at h
  · omega
  · split at h <;> omega
theorem frame_is (k e : Int) (b r : List UInt8) (hE : byE k b = 0) (h0 : 0 ≤ e) (h1 : e < 18446744073709551616) : FrameIs (byT k e b ++ r) k e b r := by
  obtain ⟨k1, k2, hb⟩ := byE_ok hE
  obtain ⟨p, hp⟩ : ∃ p, p = putZ e 8 := ⟨_, rfl⟩
  obtain ⟨q, hq⟩ : ∃ q, q = putZ b.length 4 := ⟨_, rfl⟩
  have hpl : p.length = 8 := by rw [hp, putZ_len]; rfl
  have hql : q.length = 4 := by rw [hq, putZ_len]; rfl
  have ep : getZ p = e := by
    rw [hp]; unfold getZ putZ
    rw [show cl8 8 = 8 from rfl, getL_putL 8 _ (by omega)]; omega
  have eq' : getZ q = b.length := by
    rw [hq]; unfold getZ putZ
    rw [show cl8 4 = 4 from rfl, Int.toNat_natCast, getL_putL 4 _ (by omega)]
  obtain ⟨z, hz⟩ : ∃ z, z = le4 (crcL (headT k e b)) := ⟨_, rfl⟩
  have hzl : z.length = 4 := by rw [hz]; rfl
  have hT : byT k e b = headT k e b ++ z := by rw [byT, if_pos hE, markL, hz]
  have hh : headT k e b = 79 :: 70 :: 1 :: UInt8.ofNat k.toNat :: (p ++ (q ++ b)) := by rw [headT, hp, hq]; simp
  have hl16 := headT_length k e b
  have hs : byT k e b ++ r = 79 :: 70 :: 1 :: UInt8.ofNat k.toNat :: (p ++ (q ++ (b ++ (z ++ r)))) := by
    rw [hT, hh]; simp
  have hlen : (byT k e b ++ r).length = b.length + 20 + r.length := by rw [hT]; simp only [List.length_append, hl16, hzl]
  generalize ht : byT k e b ++ r = t at hs hlen
  have tN : nxN t = b.length := by
    rw [nxN, List.drop_take, hs]
    show getZ ((List.drop 8 (p ++ (q ++ (b ++ (z ++ r))))).take 4) = _
    rw [drop_app p _ 8 hpl, take_app q _ 4 hql, eq']
  have t3 : t.take 3 = [79, 70, 1] := by rw [hs]; rfl
  have tk : ((t.getD 3 0).toNat : Int) = k := by
    rw [hs]
    show ((UInt8.ofNat k.toNat).toNat : Int) = k
    rw [UInt8.toNat_ofNat']; omega
  have t16 : t.take (b.length + 16) = headT k e b := by rw [← ht, hT, List.append_assoc]; exact take_app _ _ _ hl16
  have t20 : t.take (b.length + 20) = headT k e b ++ z := by rw [← ht, hT]; exact take_app _ _ _ (by simp only [List.length_append, hl16, hzl])
  have d20 : t.drop (b.length + 20) = r := by rw [← ht, hT]; exact drop_app _ _ _ (by simp only [List.length_append, hl16, hzl])
  have hc : chkE (t.take (nxN t + 20).toNat) = 0 := by
    rw [tN, show ((b.length : Int) + 20).toNat = b.length + 20 by omega, t20, chkE, if_neg (by simp only [List.length_append, hl16, hzl]; omega), take_app _ _ _ (by simp only [List.length_append, hl16, hzl]; omega), if_pos]
    rw [markL, hz]
  have hE0 : nxE t = 0 := by
    have nc : nxE t = if t.length < 20 then 3 else if t.take 3 ≠ [79, 70, 1] then 4 else if (t.getD 3 0).toNat = 0 then 10 else if 8192 < nxN t then 5 else if (t.length : Int) < nxN t + 20 then 3 else chkE (t.take (nxN t + 20).toNat) := rfl
    rw [nc, if_neg (by omega), if_neg (by rw [t3]; simp), if_neg (by omega), if_neg (by omega), if_neg (by omega), hc]
  refine ⟨hE0, by rw [nxK, if_pos hE0, tk], ?_, ?_, ?_, tN, hlen⟩
  · rw [nxP, if_pos hE0, List.drop_take, hs]
    show getZ ((p ++ (q ++ (b ++ (z ++ r)))).take 8) = _
    rw [take_app p _ 8 hpl, ep]
  · rw [nxB, if_pos hE0, tN, show ((b.length : Int) + 16).toNat = b.length + 16 by omega, t16, hh]
    show List.drop 12 (p ++ (q ++ b)) = b
    rw [show p ++ (q ++ b) = (p ++ q) ++ b by simp, drop_app (p ++ q) _ 12 (by simp [hpl, hql])]
  · rw [nxR, if_pos hE0, tN, show ((b.length : Int) + 20).toNat = b.length + 20 by omega, d20]
end Sy
end Go.Proofs.YtcgikjfloloekaaGreatDoor
namespace Go.Proofs.YtcgikjfloloekaaGreatDoor
namespace Sy
open Go Go.RowKit
set_option maxRecDepth 100000
set_option linter.unusedSimpArgs false
set_option linter.unusedVariables false
def preB (a b : List UInt8) : Bool := a.take b.length == b
def preOk (a b : List UInt8) : Prop := a.length ≤ 1000000000 ∧ b.length ≤ 1000000000
def pre0_s (L : Seal) : Ent1 := (119, fun xs => match xs with | [.str a, .str b] => some (L2 L preOk a b, .bool (L2 L preB a b)) | _ => none)
def pre_s (L : Seal) : Ent1 := (91, fun xs => match xs with | [.str a, .str b] => some (L2 L preOk a b, .bool (L2 L preB a b)) | _ => none)
theorem pre0_good : Good Tryz.prog (pre0_s std) := by
  intro xs p r h hp
  dsimp only [pre0_s] at h ⊢
  split at h <;> cases h
  try simp only [L2, L3, std] at hp ⊢
  rename_i a b
  refine acalls_L (T := tt) (S := noS) (lo := noA) (lb := noA) 5 (fn := Tryz.f119) rfl rfl (by kernel_rfl) (by kernel_rfl) rfl tt_ok (noS_ok _) (by kernel_rfl) ?_
  (intro L P1 Q1 hL hP hQ; cbv; subst hL; simp only [L2, L3, std, sat_need, sat_must, sat_ite, sat_done, sat_yes, sat_ex, sat_all, sat_sup, sat_and, sat_fail]; subst hQ)
  (simp only [sySet, syB, reduceCtorEq, forall_const, Int.reduceToNat, Int.reduceAdd, Int.reduceSub, Int.cast_ofNat_Int, Int.toNat_natCast, Nat.le_eq, Nat.sub_eq, ne_eq, implies_true, wadd, wsub, wmul, Nat.succ_eq_add_one])
  exact ⟨fun h => ⟨by omega, rfl⟩, fun h => by
    have : ¬ a.take b.length = b := fun e => by have := congrArg List.length e; simp at this; omega
    simp [preB, this]⟩
theorem pre_good : Good Tryz.prog (pre_s std) := by
  intro xs p r h hp
  dsimp only [pre_s] at h ⊢
  split at h <;> cases h
  try simp only [L2, L3, std] at hp ⊢
  rename_i a b
  refine acalls_L (T := tt) (S := fun L => sumOf [pre0_s L]) (lo := noA) (lb := noA) 5 (fn := Tryz.f91) rfl rfl (by kernel_rfl) (by kernel_rfl) rfl tt_ok (sumOf_ok ⟨pre0_good, trivial⟩) (by kernel_rfl) ?_
  (intro L P1 Q1 hL hP hQ; cbv; subst hL; simp only [L2, L3, std, sat_need, sat_must, sat_ite, sat_done, sat_yes, sat_ex, sat_all, sat_sup, sat_and, sat_fail]; subst hQ)
  (simp only [sySet, syB, reduceCtorEq, forall_const, Int.reduceToNat, Int.reduceAdd, Int.reduceSub, Int.cast_ofNat_Int, Int.toNat_natCast, Nat.le_eq, Nat.sub_eq, ne_eq, implies_true, wadd, wsub, wmul, Nat.succ_eq_add_one])
  exact hp
def fnext_s (L : Seal) : Ent1 := (60, fun xs => match xs with | [.str s] => some (L2 L upto 900000 s, .tup [.agg [.int .i64 (L nxK s), .int .u64 (L nxP s), .str (L nxB s)], .str (L nxR s), .int .i64 (L nxE s)]) | _ => none)
theorem fnext_good : Good Tryz.prog (fnext_s std) := by
  intro xs p r h hp
  dsimp only [fnext_s] at h ⊢
  split at h <;> cases h
  try simp only [L2, L3, std] at hp ⊢
  rename_i s
  refine acalls_L (T := tt) (S := fun L => sumOf [size_s L, pre_s L, get_s L, check_s L]) (lo := noA) (lb := noA) 5 (fn := Tryz.f60) rfl rfl (by kernel_rfl) (by kernel_rfl) rfl tt_ok (sumOf_ok ⟨size_good, pre_good, get_good, check_good, trivial⟩) (by kernel_rfl) ?_
  obtain ⟨hN0, hN1⟩ := nxN_bound s
  have bad : ∀ c : Int, c ≠ 0 → nxE s = c → (0 = nxK s ∧ 0 = nxP s ∧ [] = nxB s) ∧ [] = nxR s ∧ c = nxE s := by
    intro c hc he
    simp [nxK, nxP, nxB, nxR, he, hc]
  have hl : s.length ≤ 900000 := hp
  (intro L P1 Q1 hL hP hQ; cbv; subst hL; simp only [L2, L3, std, sat_need, sat_must, sat_ite, sat_done, sat_yes, sat_ex, sat_all, sat_sup, sat_and, sat_fail]; subst hQ)
  (simp only [sySet, syB, reduceCtorEq, forall_const, Int.reduceToNat, Int.reduceAdd, Int.reduceSub, Int.cast_ofNat_Int, Int.toNat_natCast, Nat.le_eq, Nat.sub_eq, ne_eq, implies_true, wadd, wsub, wmul, Nat.succ_eq_add_one])
  simp only [show getZ (List.drop 12 (List.take 16 s)) = nxN s from rfl, show (nxN s + 9223372036854775808) % 18446744073709551616 - 9223372036854775808 = nxN s by omega, show (16 + nxN s) % 18446744073709551616 = nxN s + 16 by omega]
  have nc : nxE s = if s.length < 20 then 3 else if s.take 3 ≠ [79, 70, 1] then 4 else if (s.getD 3 0).toNat = 0 then 10 else if 8192 < nxN s then 5 else if (s.length : Int) < nxN s + 20 then 3 else chkE (s.take (nxN s + 20).toNat) := rfl
  refine ⟨by omega, fun h1 => bad 3 (by decide) (by rw [nc, if_pos (by omega)]), fun h1 => ⟨⟨by omega, by simp⟩, fun h2 => ?_, fun h2 => ?_⟩⟩
  · have h2 : s.take 3 ≠ [79, 70, 1] := by simpa [preB] using h2
    exact bad 4 (by decide) (by rw [nc, if_neg (by omega), if_pos h2])
  · have h2 : ¬ s.take 3 ≠ [79, 70, 1] := by simpa [preB] using h2
    refine ⟨by omega, fun h3 => bad 10 (by decide) (by rw [nc, if_neg (by omega), if_neg h2, if_pos (by omega)]), fun h3 => ⟨by omega, ⟨by simp only [List.length_drop, List.length_take]; omega, by simp only [List.length_drop, List.length_take]; omega⟩, fun h4 => bad 5 (by decide) (by rw [nc, if_neg (by omega), if_neg h2, if_neg (by omega), if_pos h4]), fun h4 => ⟨by omega,
      fun h5 => bad 3 (by decide) (by rw [nc, if_neg (by omega), if_neg h2, if_neg (by omega), if_neg (by omega), if_pos h5]), fun h5 => ?_⟩⟩⟩
    have ne : nxE s = chkE (s.take (nxN s + 20).toNat) := by rw [nc, if_neg (by omega), if_neg h2, if_neg (by omega), if_neg (by omega), if_neg (by omega)]
    refine ⟨by omega, by omega, by simp [upto]; omega, fun h6 => bad _ h6 ne, fun h6 => ?_⟩
    rw [h6] at ne
    have h8 := (s.getD 3 0).toNat_lt
    refine ⟨by omega, by omega, ⟨by simp only [List.length_drop, List.length_take]; omega, by simp only [List.length_drop, List.length_take]; omega⟩, by omega, by omega, by omega, ?_⟩
    simp only [nxK, nxP, nxB, nxR, ne, if_pos]
    exact ⟨⟨by omega, trivial, trivial⟩, trivial, trivial⟩
def paE (s : List UInt8) : Int := if nxE s = 0 ∧ nxR s ≠ [] then 4 else nxE s
def paK (s : List UInt8) : Int := if paE s = 0 then nxK s else 0
def paP (s : List UInt8) : Int := if paE s = 0 then nxP s else 0
def paB (s : List UInt8) : List UInt8 := if paE s = 0 then nxB s else []
def parse_s (L : Seal) : Ent1 := (36, fun xs => match xs with | [.str s] => some (L2 L upto 900000 s, .tup [.agg [.int .i64 (L paK s), .int .u64 (L paP s), .str (L paB s)], .int .i64 (L paE s)]) | _ => none)
theorem parse_good : Good Tryz.prog (parse_s std) := by
  intro xs p r h hp
  dsimp only [parse_s] at h ⊢
  split at h <;> cases h
  try simp only [L2, L3, std] at hp ⊢
  rename_i s
  refine acalls_L (T := tt) (S := fun L => sumOf [fnext_s L]) (lo := noA) (lb := noA) 5 (fn := Tryz.f36) rfl rfl (by kernel_rfl) (by kernel_rfl) rfl tt_ok (sumOf_ok ⟨fnext_good, trivial⟩) (by kernel_rfl) ?_
  (intro L P1 Q1 hL hP hQ; cbv; subst hL; simp only [L2, L3, std, sat_need, sat_must, sat_ite, sat_done, sat_yes, sat_ex, sat_all, sat_sup, sat_and, sat_fail]; subst hQ)
  (simp only [sySet, syB, reduceCtorEq, forall_const, Int.reduceToNat, Int.reduceAdd, Int.reduceSub, Int.cast_ofNat_Int, Int.toNat_natCast, Nat.le_eq, Nat.sub_eq, ne_eq, implies_true, wadd, wsub, wmul, Nat.succ_eq_add_one])
  refine ⟨hp, fun h1 => ⟨fun h2 => ?_, fun h2 => ?_⟩, fun h1 => ?_⟩
  · have : paE s = 4 := if_pos ⟨h1, h2⟩
    simp [paK, paP, paB, this]
  · have : paE s = nxE s := if_neg (fun h => h.2 h2)
    simp [paK, paP, paB, this, h1]
  · have : paE s = nxE s := if_neg (fun h => h1 h.1)
    obtain ⟨e1, e2, e3, e4⟩ := nx_bad s h1
    simp [paK, paP, paB, this, h1, e1, e2, e3]
end Sy
end Go.Proofs.YtcgikjfloloekaaGreatDoor
namespace Go.Proofs.YtcgikjfloloekaaGreatDoor
namespace Sy
open Go Go.RowKit
set_option maxRecDepth 100000
set_option linter.unusedSimpArgs false
set_option linter.unusedVariables false
theorem awake08_ac : ACalls Tryz.prog 114 [] (.bool true) := by
  refine acalls_L (T := tt) (S := fun L => sumOf [by_s L, tru 126, size_s L]) (lo := noA) (lb := noA) 5 (fn := Tryz.f114) rfl rfl (by kernel_rfl) (by kernel_rfl) rfl tt_ok (sumOf_ok ⟨by_good, tru_good Awake02_ac, size_good, trivial⟩) (by kernel_rfl) ?_
  (intro L P1 Q1 hL hP hQ; cbv; subst hL; simp only [L2, L3, std, sat_need, sat_must, sat_ite, sat_done, sat_yes, sat_ex, sat_all, sat_sup, sat_and, sat_fail]; subst hQ)
  (simp only [sySet, syB, reduceCtorEq, forall_const, Int.reduceToNat, Int.reduceAdd, Int.reduceSub, Int.cast_ofNat_Int, Int.toNat_natCast, Nat.le_eq, Nat.sub_eq, ne_eq, implies_true, wadd, wsub, wmul, Nat.succ_eq_add_one])
  have e : byE 1 [] = 0 := rfl
  have t : byT 1 0 [] = markL (headT 1 0 []) := rfl
  rw [t, markL_length, headT_length]
  simp [byOk, e]
end Sy
end Go.Proofs.YtcgikjfloloekaaGreatDoor
namespace Go.Proofs.YtcgikjfloloekaaGreatDoor
namespace Sy
open Go Go.RowKit
set_option maxRecDepth 100000
set_option linter.unusedSimpArgs false
set_option linter.unusedVariables false
def bln (n : Nat) : Nat := if n = 0 then 0 else n.log2 + 1
theorem bln_div {n k : Nat} (h : 2 ^ k ≤ n) : bln n = bln (n / 2 ^ k) + k := by
  have h0 : n ≠ 0 := by have := Nat.two_pow_pos k; omega
  have h1 : n / 2 ^ k ≠ 0 := by
    have := Nat.div_pos h (Nat.two_pow_pos k)
    omega
  unfold bln
  rw [if_neg h0, if_neg h1]
  have h2 : k ≤ n.log2 := (Nat.le_log2 h0).2 h
  have h3 := (Nat.le_log2 (k := n.log2) h0).1 (Nat.le_refl _)
  have h4 := (Nat.log2_lt (k := n.log2 + 1) h0).1 (Nat.lt_succ_self _)
  have e1 : (n / 2 ^ k).log2 = n.log2 - k := by
    apply Nat.le_antisymm
    · apply Nat.le_of_lt_succ
      rw [Nat.log2_lt h1, Nat.div_lt_iff_lt_mul (Nat.two_pow_pos k), ← Nat.pow_add]
      rw [show n.log2 - k + 1 + k = n.log2 + 1 by omega]
      exact h4
    · rw [Nat.le_log2 h1, Nat.le_div_iff_mul_le (Nat.two_pow_pos k), ← Nat.pow_add]
      rw [show n.log2 - k + k = n.log2 by omega]
      exact h3
  omega
def blT : List UInt8 := [0, 1, 2, 2, 3, 3, 3, 3, 4, 4, 4, 4, 4, 4, 4, 4, 5, 5, 5, 5, 5, 5, 5, 5, 5, 5, 5, 5, 5, 5, 5, 5, 6, 6, 6, 6, 6, 6, 6, 6, 6, 6, 6, 6, 6, 6, 6, 6, 6, 6, 6, 6, 6, 6, 6, 6, 6, 6, 6, 6, 6, 6, 6, 6, 7, 7, 7, 7, 7, 7, 7, 7, 7, 7, 7, 7, 7, 7, 7, 7, 7, 7, 7, 7, 7, 7, 7, 7, 7, 7, 7, 7, 7, 7, 7, 7, 7, 7, 7, 7, 7, 7, 7, 7, 7, 7, 7, 7, 7, 7, 7, 7, 7, 7, 7, 7, 7, 7, 7, 7, 7, 7, 7, 7, 7, 7, 7, 7, 8, 8, 8, 8, 8, 8, 8, 8, 8, 8, 8, 8, 8, 8, 8, 8, 8, 8, 8, 8, 8, 8, 8, 8, 8, 8, 8, 8, 8, 8, 8, 8, 8, 8, 8, 8, 8, 8, 8, 8, 8, 8, 8, 8, 8, 8, 8, 8, 8, 8, 8, 8, 8, 8, 8, 8, 8, 8, 8, 8, 8, 8, 8, 8, 8, 8, 8, 8, 8, 8, 8, 8, 8, 8, 8, 8, 8, 8, 8, 8, 8, 8, 8, 8, 8, 8, 8, 8, 8, 8, 8, 8, 8, 8, 8, 8, 8, 8, 8, 8, 8, 8, 8, 8, 8, 8, 8, 8, 8, 8, 8, 8, 8, 8, 8, 8, 8, 8, 8, 8, 8, 8, 8, 8, 8, 8, 8, 8]
theorem blT_eq : ([0, 1, 2, 2, 3, 3, 3, 3, 4, 4, 4, 4, 4, 4, 4, 4, 5, 5, 5, 5, 5, 5, 5, 5, 5, 5, 5, 5, 5, 5, 5, 5, 6, 6, 6, 6, 6, 6, 6, 6, 6, 6, 6, 6, 6, 6, 6, 6, 6, 6, 6, 6, 6, 6, 6, 6, 6, 6, 6, 6, 6, 6, 6, 6, 7, 7, 7, 7, 7, 7, 7, 7, 7, 7, 7, 7, 7, 7, 7, 7, 7, 7, 7, 7, 7, 7, 7, 7, 7, 7, 7, 7, 7, 7, 7, 7, 7, 7, 7, 7, 7, 7, 7, 7, 7, 7, 7, 7, 7, 7, 7, 7, 7, 7, 7, 7, 7, 7, 7, 7, 7, 7, 7, 7, 7, 7, 7, 7, 8, 8, 8, 8, 8, 8, 8, 8, 8, 8, 8, 8, 8, 8, 8, 8, 8, 8, 8, 8, 8, 8, 8, 8, 8, 8, 8, 8, 8, 8, 8, 8, 8, 8, 8, 8, 8, 8, 8, 8, 8, 8, 8, 8, 8, 8, 8, 8, 8, 8, 8, 8, 8, 8, 8, 8, 8, 8, 8, 8, 8, 8, 8, 8, 8, 8, 8, 8, 8, 8, 8, 8, 8, 8, 8, 8, 8, 8, 8, 8, 8, 8, 8, 8, 8, 8, 8, 8, 8, 8, 8, 8, 8, 8, 8, 8, 8, 8, 8, 8, 8, 8, 8, 8, 8, 8, 8, 8, 8, 8, 8, 8, 8, 8, 8, 8, 8, 8, 8, 8, 8, 8, 8, 8, 8, 8, 8, 8] : List UInt8) = blT := rfl
theorem blT_len : blT.length = 256 := by decide +kernel
theorem bl_8 : ∀ k : _root_.Fin 256, bln k.val ≤ 8 := by decide +kernel
theorem blT_at : ∀ k : _root_.Fin 256, (blT.getD k.val 0).toNat = bln k.val := by decide +kernel
theorem blT_is (x : Int) (h0 : 0 ≤ x) (h1 : x < 256) : ((blT.getD x.toNat 0).toNat : Int) = ((bln x.toNat : Nat) : Int) := by
  have := blT_at ⟨x.toNat, by omega⟩
  simp only at this
  rw [this]
theorem shr32 (n : Int) : wshr .u64 n 32 = n / 4294967296 := by
  unfold wshr
  rw [show (2 : Int) ^ (min (32 : Int).toNat IntKind.u64.bits) = 4294967296 from rfl, Int.fdiv_eq_ediv_of_nonneg _ (by decide)]
theorem shr16 (n : Int) : wshr .u64 n 16 = n / 65536 := by
  unfold wshr
  rw [show (2 : Int) ^ (min (16 : Int).toNat IntKind.u64.bits) = 65536 from rfl, Int.fdiv_eq_ediv_of_nonneg _ (by decide)]
theorem shr8 (n : Int) : wshr .u64 n 8 = n / 256 := by
  unfold wshr
  rw [show (2 : Int) ^ (min (8 : Int).toNat IntKind.u64.bits) = 256 from rfl, Int.fdiv_eq_ediv_of_nonneg _ (by decide)]
theorem bl_step (x : Int) (k : Nat) (P : Int) (hP : P = ((2 ^ k : Nat) : Int)) (h : P ≤ x) : ((bln x.toNat : Nat) : Int) = ((bln (x / P).toNat : Nat) : Int) + k := by
  have hp := Nat.two_pow_pos k
  have h1 : 2 ^ k ≤ x.toNat := by omega
  have := bln_div h1
  have e : (x / P).toNat = x.toNat / 2 ^ k := by
    rw [hP]
    have : x = (x.toNat : Int) := by omega
    rw [this, ← Int.natCast_ediv, Int.toNat_natCast, Int.toNat_natCast]
  rw [e]
  omega
def u64Ok (n : Int) : Prop := 0 ≤ n ∧ n < 18446744073709551616
def blZ (n : Int) : Int := (bln n.toNat : Nat)
def len_s (L : Seal) : Ent1 := (111, fun xs => match xs with | [.int .u64 n] => some (L u64Ok n, .int .i64 (L blZ n)) | _ => none)
theorem bl_fin (c : Int) (x n : Int) (h0 : 0 ≤ x) (h1 : x < 256) (hc : 0 ≤ c) (hc' : c ≤ 56) (h : blZ n = blZ x + c) :
    ((c + (((blT.getD (x % 256).toNat 0).toNat : Int))) = blZ n) ∧ 0 ≤ (((blT.getD (x % 256).toNat 0).toNat : Int)) ∧ (((blT.getD (x % 256).toNat 0).toNat : Int)) ≤ 8 := by
  have e : x % 256 = x := by omega
  rw [e, blT_is x h0 h1, h]
  have := bl_8 ⟨x.toNat, by omega⟩
  simp only at this
  unfold blZ
  refine ⟨by omega, by omega, by omega⟩
theorem blZ_step (x : Int) (k : Nat) (P : Int) (hP : P = ((2 ^ k : Nat) : Int)) (h : P ≤ x) : blZ x = blZ (x / P) + k := bl_step x k P hP h
theorem len_good : Good Tryz.prog (len_s std) := by
  intro xs p r h hp
  dsimp only [len_s] at h ⊢
  split at h <;> cases h
  try simp only [L2, L3, std] at hp ⊢
  rename_i n
  refine acalls_L (T := tt) (S := noS) (lo := noA) (lb := noA) 5 (fn := Tryz.f111) rfl rfl (by kernel_rfl) (by kernel_rfl) rfl tt_ok (noS_ok _) (by kernel_rfl) ?_
  intro L P' Q' hL hP hQ
  (cbv; try simp only [sat_need, sat_must, sat_ite, sat_done, sat_yes, sat_ex, sat_all, sat_sup, sat_and, sat_fail, true_and, and_true])
  refine ⟨fun h1 => ⟨?_, fun h2 => ⟨?_, fun h3 => ⟨?_, ?_, ?_⟩, fun h3 => ⟨?_, ?_⟩⟩, fun h2 => ⟨fun h3 => ⟨?_, ?_, ?_⟩, fun h3 => ⟨?_, ?_⟩⟩⟩, fun h1 => ⟨fun h2 => ⟨?_, fun h3 => ⟨?_, ?_, ?_⟩, fun h3 => ⟨?_, ?_⟩⟩, fun h2 => ⟨fun h3 => ⟨?_, ?_, ?_⟩, fun h3 => ⟨?_, ?_⟩⟩⟩⟩
  all_goals (subst hL; subst hQ; simp only [L2, L3, std] at *; try simp only [sySet, syB, reduceCtorEq, forall_const, Int.reduceToNat, Int.reduceAdd, Int.reduceSub, Int.cast_ofNat_Int, Int.toNat_natCast, Nat.le_eq, Nat.sub_eq, ne_eq, implies_true, wadd, wsub, wmul, Nat.succ_eq_add_one] at *)
  all_goals try (simp only [shr32, shr16, shr8, blT_eq, blT_len] at *)
  all_goals obtain ⟨u0, u1⟩ := hp
  all_goals try omega
  · have b := bl_fin 56 (n / 4294967296 / 65536 / 256) n (by omega) (by omega) (by omega) (by omega) (by rw [blZ_step n 32 4294967296 rfl h1, blZ_step _ 16 65536 rfl h2, blZ_step _ 8 256 rfl h3]; omega)
    omega
  · have b := bl_fin 48 (n / 4294967296 / 65536) n (by omega) (by omega) (by omega) (by omega) (by rw [blZ_step n 32 4294967296 rfl h1, blZ_step _ 16 65536 rfl h2]; omega)
    omega
  · have b := bl_fin 40 (n / 4294967296 / 256) n (by omega) (by omega) (by omega) (by omega) (by rw [blZ_step n 32 4294967296 rfl h1, blZ_step _ 8 256 rfl h3]; omega)
    omega
  · have b := bl_fin 32 (n / 4294967296) n (by omega) (by omega) (by omega) (by omega) (by rw [blZ_step n 32 4294967296 rfl h1]; omega)
    omega
  · have b := bl_fin 24 (n / 65536 / 256) n (by omega) (by omega) (by omega) (by omega) (by rw [blZ_step n 16 65536 rfl h2, blZ_step _ 8 256 rfl h3]; omega)
    omega
  · have b := bl_fin 16 (n / 65536) n (by omega) (by omega) (by omega) (by omega) (by rw [blZ_step n 16 65536 rfl h2]; omega)
    omega
  · have b := bl_fin 8 (n / 256) n (by omega) (by omega) (by omega) (by omega) (by rw [blZ_step n 8 256 rfl h3]; omega)
    omega
  · have b := bl_fin 0 n n (by omega) (by omega) (by omega) (by omega) (by omega)
    omega
def ldZ (n : Int) : Int := 64 - blZ n
theorem bl_le {n : Int} (h : u64Ok n) : 0 ≤ blZ n ∧ blZ n ≤ 64 := by
  obtain ⟨h0, h1⟩ := h
  unfold blZ bln
  split
  · omega
  · rename_i hn
    have p64 : (2 : Nat) ^ 64 = 18446744073709551616 := by decide
    have := (Nat.log2_lt (k := 64) hn).2 (by rw [p64]; omega)
    omega
def lead_s (L : Seal) : Ent1 := (78, fun xs => match xs with | [.int .u64 n] => some (L u64Ok n, .int .i64 (L ldZ n)) | _ => none)
theorem lead_good : Good Tryz.prog (lead_s std) := by
  intro xs p r h hp
  dsimp only [lead_s] at h ⊢
  split at h <;> cases h
  try simp only [L2, L3, std] at hp ⊢
  rename_i n
  refine acalls_L (T := tt) (S := fun L => sumOf [len_s L]) (lo := noA) (lb := noA) 5 (fn := Tryz.f78) rfl rfl (by kernel_rfl) (by kernel_rfl) rfl tt_ok (sumOf_ok ⟨len_good, trivial⟩) (by kernel_rfl) ?_
  have := bl_le hp
  (intro L P1 Q1 hL hP hQ; cbv; subst hL; simp only [L2, L3, std, sat_need, sat_must, sat_ite, sat_done, sat_yes, sat_ex, sat_all, sat_sup, sat_and, sat_fail]; subst hQ)
  (simp only [sySet, syB, reduceCtorEq, forall_const, Int.reduceToNat, Int.reduceAdd, Int.reduceSub, Int.cast_ofNat_Int, Int.toNat_natCast, Nat.le_eq, Nat.sub_eq, ne_eq, implies_true, wadd, wsub, wmul, Nat.succ_eq_add_one])
  unfold ldZ
  exact ⟨hp, by omega⟩
def dlyZ (b c t : Int) : Int := if b = 0 ∨ c = 0 then 0 else if ldZ b + 1 ≤ max t 0 then c else min (wshl .u64 b (max t 0)) c
def dly_s (L : Seal) : Ent1 := (48, fun xs => match xs with | [.agg [.int .u64 b, .int .u64 c, .int .i64 t]] => some (L u64Ok b, .int .u64 (L3 L dlyZ b c t)) | _ => none)
theorem dly_good : Good Tryz.prog (dly_s std) := by
  intro xs p r h hp
  dsimp only [dly_s] at h ⊢
  split at h <;> cases h
  try simp only [L2, L3, std] at hp ⊢
  rename_i b c t
  refine acalls_L (T := tt) (S := fun L => sumOf [lead_s L]) (lo := noA) (lb := noA) 5 (fn := Tryz.f48) rfl rfl (by kernel_rfl) (by kernel_rfl) rfl tt_ok (sumOf_ok ⟨lead_good, trivial⟩) (by kernel_rfl) ?_
  have := bl_le hp
  have : 0 ≤ ldZ b ∧ ldZ b ≤ 64 := by unfold ldZ; omega
  (intro L P1 Q1 hL hP hQ; cbv; subst hL; simp only [L2, L3, std, sat_need, sat_must, sat_ite, sat_done, sat_yes, sat_ex, sat_all, sat_sup, sat_and, sat_fail]; subst hQ)
  (simp only [sySet, syB, reduceCtorEq, forall_const, Int.reduceToNat, Int.reduceAdd, Int.reduceSub, Int.cast_ofNat_Int, Int.toNat_natCast, Nat.le_eq, Nat.sub_eq, ne_eq, implies_true, wadd, wsub, wmul, Nat.succ_eq_add_one])
  refine ⟨fun h => by simp [dlyZ, h], fun h1 => ⟨fun h => by simp [dlyZ, h], fun h2 => ⟨hp, fun h3 => ?_, fun h3 => ⟨by omega, ?_⟩⟩⟩⟩
  · rw [dlyZ, if_neg (by omega), if_pos (by omega)]
  · rw [dlyZ, if_neg (by omega), if_neg (by omega)]
def nxtT (t : Int) : Int := min (max t 0 + 1) 64
def wnext_s (L : Seal) : Ent1 := (49, fun xs => match xs with | [.agg [.int .u64 b, .int .u64 c, .int .i64 t]] => some (L (fun t : Int => t ≤ 1000000) t, .agg [.int .u64 b, .int .u64 c, .int .i64 (L nxtT t)]) | _ => none)
theorem wnext_good : Good Tryz.prog (wnext_s std) := by
  intro xs p r h hp
  dsimp only [wnext_s] at h ⊢
  split at h <;> cases h
  try simp only [L2, L3, std] at hp ⊢
  rename_i b c t
  refine acalls_L (T := tt) (S := noS) (lo := noA) (lb := noA) 5 (fn := Tryz.f49) rfl rfl (by kernel_rfl) (by kernel_rfl) rfl tt_ok (noS_ok _) (by kernel_rfl) ?_
  (intro L P1 Q1 hL hP hQ; cbv; subst hL; simp only [L2, L3, std, sat_need, sat_must, sat_ite, sat_done, sat_yes, sat_ex, sat_all, sat_sup, sat_and, sat_fail]; subst hQ)
  (simp only [sySet, syB, reduceCtorEq, forall_const, Int.reduceToNat, Int.reduceAdd, Int.reduceSub, Int.cast_ofNat_Int, Int.toNat_natCast, Nat.le_eq, Nat.sub_eq, ne_eq, implies_true, wadd, wsub, wmul, Nat.succ_eq_add_one])
  have hp : t ≤ 1000000 := hp
  unfold nxtT
  omega
def wreset_s (L : Seal) : Ent1 := (46, fun xs => match xs with | [.agg [.int .u64 b, .int .u64 c, .int .i64 t]] => some (True, .agg [.int .u64 b, .int .u64 c, .int .i64 0]) | _ => none)
theorem wreset_good : Good Tryz.prog (wreset_s std) := by
  intro xs p r h hp
  dsimp only [wreset_s] at h ⊢
  split at h <;> cases h
  try simp only [L2, L3, std] at hp ⊢
  rename_i b c t
  refine acalls_L (T := tt) (S := noS) (lo := noA) (lb := noA) 5 (fn := Tryz.f46) rfl rfl (by kernel_rfl) (by kernel_rfl) rfl tt_ok (noS_ok _) (by kernel_rfl) ?_
  (intro L P1 Q1 hL hP hQ; cbv; subst hL; simp only [L2, L3, std, sat_need, sat_must, sat_ite, sat_done, sat_yes, sat_ex, sat_all, sat_sup, sat_and, sat_fail]; subst hQ)
  (simp only [sySet, syB, reduceCtorEq, forall_const, Int.reduceToNat, Int.reduceAdd, Int.reduceSub, Int.cast_ofNat_Int, Int.toNat_natCast, Nat.le_eq, Nat.sub_eq, ne_eq, implies_true, wadd, wsub, wmul, Nat.succ_eq_add_one])
theorem awake18_ac : ACalls Tryz.prog 115 [] (.bool true) := by
  refine acalls_L (T := tt) (S := fun L => sumOf [dly_s L, wnext_s L, tru 124]) (lo := noA) (lb := noA) 5 (fn := Tryz.f115) rfl rfl (by kernel_rfl) (by kernel_rfl) rfl tt_ok (sumOf_ok ⟨dly_good, wnext_good, tru_good Awake01_ac, trivial⟩) (by kernel_rfl) ?_
  (intro L P1 Q1 hL hP hQ; cbv; subst hL; simp only [L2, L3, std, sat_need, sat_must, sat_ite, sat_done, sat_yes, sat_ex, sat_all, sat_sup, sat_and, sat_fail]; subst hQ)
  (simp only [sySet, syB, reduceCtorEq, forall_const, Int.reduceToNat, Int.reduceAdd, Int.reduceSub, Int.cast_ofNat_Int, Int.toNat_natCast, Nat.le_eq, Nat.sub_eq, ne_eq, implies_true, wadd, wsub, wmul, Nat.succ_eq_add_one])
  simp only [u64Ok]
  decide +kernel
theorem Awake18_ac : ACalls Tryz.prog 82 [] (.bool true) := by
  refine acalls_L (T := tt) (S := fun L => sumOf [tru 115]) (lo := noA) (lb := noA) 5 (fn := Tryz.f82) rfl rfl (by kernel_rfl) (by kernel_rfl) rfl tt_ok (sumOf_ok ⟨tru_good awake18_ac, trivial⟩) (by kernel_rfl) ?_
  (intro L P1 Q1 hL hP hQ; cbv; subst hL; simp only [L2, L3, std, sat_need, sat_must, sat_ite, sat_done, sat_yes, sat_ex, sat_all, sat_sup, sat_and, sat_fail]; subst hQ)
  (simp only [sySet, syB, reduceCtorEq, forall_const, Int.reduceToNat, Int.reduceAdd, Int.reduceSub, Int.cast_ofNat_Int, Int.toNat_natCast, Nat.le_eq, Nat.sub_eq, ne_eq, implies_true, wadd, wsub, wmul, Nat.succ_eq_add_one])
theorem Awake08_ac : ACalls Tryz.prog 81 [] (.bool true) := by
  refine acalls_L (T := tt) (S := fun L => sumOf [tru 114]) (lo := noA) (lb := noA) 5 (fn := Tryz.f81) rfl rfl (by kernel_rfl) (by kernel_rfl) rfl tt_ok (sumOf_ok ⟨tru_good awake08_ac, trivial⟩) (by kernel_rfl) ?_
  (intro L P1 Q1 hL hP hQ; cbv; subst hL; simp only [L2, L3, std, sat_need, sat_must, sat_ite, sat_done, sat_yes, sat_ex, sat_all, sat_sup, sat_and, sat_fail]; subst hQ)
  (simp only [sySet, syB, reduceCtorEq, forall_const, Int.reduceToNat, Int.reduceAdd, Int.reduceSub, Int.cast_ofNat_Int, Int.toNat_natCast, Nat.le_eq, Nat.sub_eq, ne_eq, implies_true, wadd, wsub, wmul, Nat.succ_eq_add_one])
end Sy
end Go.Proofs.YtcgikjfloloekaaGreatDoor
namespace Go.Proofs.YtcgikjfloloekaaGreatDoor
namespace Sy
open Go Go.RowKit
set_option maxRecDepth 100000
set_option linter.unusedSimpArgs false
set_option linter.unusedVariables false
def noEsc_m : EntM := (127, fun raw ob => match raw with
  | [.ref id 0] => match ob id with
    | some (.box ty cs) => some ⟨[.ref 500000 0], [(500000, .box ty cs)], True, .ref 500000 0, [(500000, .box ty cs)]⟩
    | _ => none
  | _ => none)
theorem noEsc_good : GoodM Tryz.prog noEsc_m := by
  intro raw ob T hT hp
  unfold noEsc_m at hT
  simp only at hT
  split at hT
  · split at hT
    · cases hT
      intro D w μ vs hD hxs hdom hobs hinj hown hg hgb
      obtain ⟨v, hv⟩ : ∃ v, vs.toList = [v] := List.length_eq_one_iff.1 (by simpa using hxs.1.symm)
      have : vs = #[v] := by rw [← Array.toArray_toList (xs := vs), hv]
      subst this
      unfold CallTo
      rw [show noEsc_m.fst = 127 from rfl, run_callFunc_extern (fn := Tryz.f127) rfl (by kernel_rfl) (by kernel_rfl) (by kernel_rfl) (e := Extern.AbiNoEscape.same) (by kernel_rfl)]
      rw [Lib.run_noEscape]
      exact ⟨v, D, μ, { ret := rfl, os := rfl, tape := rfl, output := rfl, size := Nat.le_refl _, old := fun _ _ _ => rfl, up := fun _ h => h, dn := fun _ h => .inl h, dom := hdom, obs := hobs, inj := hinj, own := fun n b z h => ⟨(hown n b z h).1, (hown n b z h).2, .inr ⟨n, z, h⟩⟩, keep := fun _ _ _ => rfl, val := hxs.2 0 _ _ rfl rfl }⟩
    · cases hT
  · cases hT
def cc_m : EntM := (117, fun raw ob => match raw with
  | [.ref id 0] => match ob id with
    | some (.box _ [.nilp, .nils]) => some ⟨[.ref 500000 0], [(500000, .box 141 [.nilp, .nils])], True, .tup [], [(500000, .box 141 [.ref 500000 0, .nils])]⟩
    | some (.box _ [.ref _ 0, .sl k 1 0 n]) => match ob k with
      | some (.row _ 1 m get) => some ⟨[.ref 500000 0], [(500000, .box 141 [.ref 500000 0, .sl 500001 1 0 m]), (500001, .row 5 1 m get)], True, .tup [], [(500000, .box 141 [.ref 500000 0, .sl 500001 1 0 m]), (500001, .row 5 1 m get)]⟩
      | _ => none
    | _ => none
  | _ => none)
theorem cc_new : MCalls Tryz.prog 117 [.ref 500000 0] [(500000, .box 141 [.nilp, .nils])] (.tup []) [(500000, .box 141 [.ref 500000 0, .nils])] := by
  refine mcalls_L (T := tt) (S := fun L => sumOfM [] [noEsc_m]) (lo := noA) (lb := noA) 5 (fn := Tryz.f117) (xs := fun L => [.ref 500000 0]) (rts := fun _ => []) (O := fun L => [(500000, .box 141 [.nilp, .nils])]) (O1 := fun L => [(500000, .box 141 [.ref 500000 0, .nils])])
    rfl rfl (by kernel_rfl) (by kernel_rfl) (by kernel_rfl) tt_ok (sumOfM_ok trivial ⟨noEsc_good, trivial⟩) (by kernel_rfl) ?_
  intro L P' Q' hL hP hQ
  (cbv; try simp only [sat_need, sat_must, sat_ite, sat_done, sat_yes, sat_ex, sat_all, sat_sup, sat_and, sat_fail, true_and, and_true])
  exact ⟨fun _ => trivial, fun h => by cases h⟩
theorem cc_old (m : Nat) (get : Nat → Nat → AV) : MCalls Tryz.prog 117 [.ref 500000 0] [(500000, .box 141 [.ref 500000 0, .sl 500001 1 0 m]), (500001, .row 5 1 m get)] (.tup []) [(500000, .box 141 [.ref 500000 0, .sl 500001 1 0 m]), (500001, .row 5 1 m get)] := by
  refine mcalls_L (T := tt) (S := fun L => sumOfM [] [noEsc_m]) (lo := noA) (lb := noA) 5 (fn := Tryz.f117) (xs := fun L => [.ref 500000 0]) (rts := fun _ => []) (O := fun L => [(500000, .box 141 [.ref 500000 0, .sl 500001 1 0 m]), (500001, .row 5 1 m get)]) (O1 := fun L => [(500000, .box 141 [.ref 500000 0, .sl 500001 1 0 m]), (500001, .row 5 1 m get)])
    rfl rfl (by kernel_rfl) (by kernel_rfl) (by kernel_rfl) tt_ok (sumOfM_ok trivial ⟨noEsc_good, trivial⟩) (by kernel_rfl) ?_
  intro L P' Q' hL hP hQ
  (cbv; try simp only [sat_need, sat_must, sat_ite, sat_done, sat_yes, sat_ex, sat_all, sat_sup, sat_and, sat_fail, true_and, and_true])
  subst hL
  simp [std]
theorem cc_good : GoodM Tryz.prog cc_m := by
  intro raw ob T hT hp
  unfold cc_m at hT
  simp only at hT
  repeat' split at hT
  all_goals first | (cases hT; done) | (cases hT; exact cc_new) | (cases hT; exact cc_old _ _)
def bld (L : Seal) (l : List UInt8) : List (Nat × Ob) := [(500000, .box 141 [.ref 500000 0, .sl 500001 1 0 (L lenN l)]), (500001, .row 5 1 (L lenN l) (fun i _ => .int .u8 (L2 L byteAt l i)))]
def bldN (L : Seal) (l : List UInt8) : List (Nat × Ob) := [(500000, .box 141 [.ref 500000 0, .sl 7 1 0 (L lenN l)]), (7, .row 5 1 (L lenN l) (fun i _ => .int .u8 (L2 L byteAt l i)))]
def bld0 : List (Nat × Ob) := [(500000, .box 141 [.nilp, .nils])]
def bldOf (L : Seal) (ob : Nat → Option Ob) (id : Nat) : Option (Option (List UInt8)) := match ob id with
  | some (.box _ [.nilp, .nils]) => some none
  | some (.box _ [.ref _ 0, .sl k 1 0 n]) => match ob k with
    | some (.row _ 1 m get) => some (some (L2 L bytesOf m (fun i => (get i 0).toI)))
    | _ => none
  | _ => none
def bytesAdd (l m : List UInt8) : List UInt8 := l ++ m
def byte1 (c : Int) : List UInt8 := [UInt8.ofNat c.toNat]
def u8Ok (c : Int) : Prop := 0 ≤ c ∧ c < 256
def roomB (l m : List UInt8) : Prop := l.length + m.length ≤ 90000000
def wb_m (L : Seal) : EntM := (85, fun raw ob => match raw with
  | [.ref id 0, .int .u8 c] => match bldOf L ob id with
    | some none => some ⟨[.ref 500000 0, .int .u8 c], bld0, L u8Ok c, .dead, bldN L (L byte1 c)⟩
    | some (some l) => some ⟨[.ref 500000 0, .int .u8 c], bld L l, L u8Ok c ∧ L2 L roomB l (L byte1 c), .dead, bldN L (L2 L bytesAdd l (L byte1 c))⟩
    | none => none
  | _ => none)
def ws_m (L : Seal) : EntM := (86, fun raw ob => match raw with
  | [.ref id 0, .str s] => match bldOf L ob id with
    | some (some l) => some ⟨[.ref 500000 0, .str s], bld L l, L2 L roomB l s, .tup [.int .i64 (L slen s), .dead], bldN L (L2 L bytesAdd l s)⟩
    | _ => none
  | _ => none)
def bs_m (L : Seal) : EntM := (56, fun raw ob => match raw with
  | [.ref id 0] => match bldOf L ob id with
    | some (some l) => some ⟨[.ref 500000 0], bld L l, L (fun l => l ≠ [] ∧ l.length ≤ 90000000) l, .str l, []⟩
    | _ => none
  | _ => none)
def bl_m (L : Seal) : EntM := (55, fun raw ob => match raw with
  | [.ref id 0] => match bldOf L ob id with
    | some (some l) => some ⟨[.ref 500000 0], bld L l, True, .int .i64 (L slen l), bld L l⟩
    | _ => none
  | _ => none)
theorem byteAt_l {l m : List UInt8} {i : Nat} (h : i < l.length) : byteAt (l ++ m) i = byteAt l i := by
  simp [byteAt, List.getElem?_append_left h]
theorem byteAt_r {l m : List UInt8} {i : Nat} (h : ¬ i < l.length) : byteAt (l ++ m) i = byteAt m (i - l.length) := by
  simp [byteAt, List.getElem?_append_right (show l.length ≤ i by omega)]
theorem bytesOf_at (l : List UInt8) : bytesOf l.length (fun i => byteAt l i) = l := by
  apply List.ext_getElem
  · simp [bytesOf]
  · intro i h1 h2
    simp [bytesOf, byteAt, h2]
theorem byte1_at {c : Int} (hc : u8Ok c) (i : Nat) (h : i < 1) : nthI [c] i = byteAt (byte1 c) i := by
  have : i = 0 := by omega
  subst this
  obtain ⟨h0, h1⟩ := hc
  simp [nthI, byteAt, byte1, UInt8.toNat_ofNat']
  omega
theorem wb_new (c : Int) (hc : u8Ok c) : MCalls Tryz.prog 85 [.ref 500000 0, .int .u8 c] bld0 .dead (bldN std (byte1 c)) := by
  refine mcalls_L (T := tt) (S := fun L => sumOfM [] [cc_m]) (lo := noA) (lb := noA) 5 (fn := Tryz.f85) (xs := fun L => [.ref 500000 0, .int .u8 c]) (rts := fun _ => [.dead]) (O := fun L => bld0) (O1 := fun L => bldN L (L byte1 c))
    rfl rfl (by kernel_rfl) (by kernel_rfl) (by kernel_rfl) tt_ok (sumOfM_ok trivial ⟨cc_good, trivial⟩) (by kernel_rfl) ?_
  intro L P' Q' hL hP hQ
  (cbv; try simp only [sat_need, sat_must, sat_ite, sat_done, sat_yes, sat_ex, sat_all, sat_sup, sat_and, sat_fail, true_and, and_true])
  subst hL
  simp only [L2, L3, std, roomOk_t]
  have h1 : lenN (byte1 c) = 1 := rfl
  rw [h1]
  exact ⟨by omega, ⟨rfl, fun i j hi hj => by rw [show Nat.add 0 i = i from Nat.zero_add i, byte1_at hc i hi]⟩, rfl⟩
theorem wb_old (l : List UInt8) (c : Int) (hc : u8Ok c) (hl : roomB l (byte1 c)) : MCalls Tryz.prog 85 [.ref 500000 0, .int .u8 c] (bld std l) .dead (bldN std (bytesAdd l (byte1 c))) := by
  refine mcalls_L (T := tt) (S := fun L => sumOfM [] [cc_m]) (lo := noA) (lb := noA) 5 (fn := Tryz.f85) (xs := fun L => [.ref 500000 0, .int .u8 c]) (rts := fun _ => [.dead]) (O := fun L => bld L l) (O1 := fun L => bldN L (L2 L bytesAdd l (L byte1 c)))
    rfl rfl (by kernel_rfl) (by kernel_rfl) (by kernel_rfl) tt_ok (sumOfM_ok trivial ⟨cc_good, trivial⟩) (by kernel_rfl) ?_
  intro L P' Q' hL hP hQ
  (cbv; try simp only [sat_need, sat_must, sat_ite, sat_done, sat_yes, sat_ex, sat_all, sat_sup, sat_and, sat_fail, true_and, and_true])
  subst hL
  simp only [L2, L3, std, roomOk_t]
  have h1 : lenN (bytesAdd l (byte1 c)) = l.length + 1 := by simp [lenN, bytesAdd, byte1]
  have h2 : (byte1 c).length = 1 := rfl
  have hl : l.length + (byte1 c).length ≤ 90000000 := hl
  have h3 : lenN l = l.length := rfl
  rw [h1, h3]
  refine ⟨fun _ _ _ _ => trivial, by omega, ⟨rfl, fun i j hi hj => ?_⟩, rfl⟩
  by_cases h : i < l.length
  · rw [blt_t h, show bytesAdd l (byte1 c) = l ++ byte1 c from rfl, byteAt_l h]; rfl
  · rw [blt_f h, show bytesAdd l (byte1 c) = l ++ byte1 c from rfl, byteAt_r h]
    show AV.int .u8 (nthI [c] (Nat.add 0 (i - l.length))) = _
    rw [show Nat.add 0 (i - l.length) = i - l.length from Nat.zero_add _, byte1_at hc _ (by omega)]
theorem ws_old (l s : List UInt8) (hl : roomB l s) : MCalls Tryz.prog 86 [.ref 500000 0, .str s] (bld std l) (.tup [.int .i64 (slen s), .dead]) (bldN std (bytesAdd l s)) := by
  refine mcalls_L (T := tt) (S := fun L => sumOfM [] [cc_m]) (lo := noA) (lb := noA) 5 (fn := Tryz.f86) (xs := fun L => [.ref 500000 0, .str s]) (rts := fun L => [.int .i64 (L slen s), .dead]) (O := fun L => bld L l) (O1 := fun L => bldN L (L2 L bytesAdd l s))
    rfl rfl (by kernel_rfl) (by kernel_rfl) (by kernel_rfl) tt_ok (sumOfM_ok trivial ⟨cc_good, trivial⟩) (by kernel_rfl) ?_
  intro L P' Q' hL hP hQ
  (cbv; try simp only [sat_need, sat_must, sat_ite, sat_done, sat_yes, sat_ex, sat_all, sat_sup, sat_and, sat_fail, true_and, and_true])
  subst hL
  simp only [L2, L3, std, roomOk_t]
  have h1 : lenN (bytesAdd l s) = l.length + s.length := by simp [lenN, bytesAdd]
  have hl : l.length + s.length ≤ 90000000 := hl
  have h3 : lenN l = l.length := rfl
  rw [h1, h3]
  refine ⟨fun _ _ _ _ => trivial, by omega, ⟨rfl, fun i j hi hj => ?_⟩, rfl⟩
  by_cases h : i < l.length
  · rw [blt_t h, show bytesAdd l s = l ++ s from rfl, byteAt_l h]; rfl
  · rw [blt_f h, show bytesAdd l s = l ++ s from rfl, byteAt_r h]; rfl
theorem bs_old (l : List UInt8) (h0 : l ≠ []) (hl : l.length ≤ 90000000) : MCalls Tryz.prog 56 [.ref 500000 0] (bld std l) (.str l) [] := by
  refine mcalls_L (T := tt) (S := fun L => sumOfM [] [cc_m]) (lo := noA) (lb := noA) 5 (fn := Tryz.f56) (xs := fun L => [.ref 500000 0]) (rts := fun L => [.str l]) (O := fun L => bld L l) (O1 := fun L => [])
    rfl rfl (by kernel_rfl) (by kernel_rfl) (by kernel_rfl) tt_ok (sumOfM_ok trivial ⟨cc_good, trivial⟩) (by kernel_rfl) ?_
  intro L P' Q' hL hP hQ
  (cbv; try simp only [sat_need, sat_must, sat_ite, sat_done, sat_yes, sat_ex, sat_all, sat_sup, sat_and, sat_fail, true_and, and_true])
  subst hL
  simp only [L2, L3, std]
  have h3 : lenN l = l.length := rfl
  have h1 : 0 < l.length := List.length_pos_iff.2 h0
  refine ⟨blt_t h1, ⟨by show (0 : Int) < (l.length : Int); omega, by show (l.length : Int) ≤ (l.length : Int); omega, by show (l.length : Int) ≤ _; omega, fun i hi => ⟨_, rfl, ?_, ?_⟩⟩, bytesOf_at l⟩
  · simp [byteAt]
  · have := UInt8.toNat_lt (l.getD i 0)
    show ((l.getD i 0).toNat : Int) < 256
    omega
theorem bl_old (l : List UInt8) : MCalls Tryz.prog 55 [.ref 500000 0] (bld std l) (.int .i64 (slen l)) (bld std l) := by
  refine mcalls_L (T := tt) (S := fun L => sumOfM [] [cc_m]) (lo := noA) (lb := noA) 5 (fn := Tryz.f55) (xs := fun L => [.ref 500000 0]) (rts := fun L => [.int .i64 (L slen l)]) (O := fun L => bld L l) (O1 := fun L => bld L l)
    rfl rfl (by kernel_rfl) (by kernel_rfl) (by kernel_rfl) tt_ok (sumOfM_ok trivial ⟨cc_good, trivial⟩) (by kernel_rfl) ?_
  intro L P' Q' hL hP hQ
  (cbv; try simp only [sat_need, sat_must, sat_ite, sat_done, sat_yes, sat_ex, sat_all, sat_sup, sat_and, sat_fail, true_and, and_true])
  subst hL
  exact ⟨fun _ _ _ _ => trivial, rfl⟩
theorem wb_good : GoodM Tryz.prog (wb_m std) := by
  intro raw ob T hT hp
  unfold wb_m at hT
  simp only at hT
  repeat' split at hT
  all_goals first | (cases hT; done) | (cases hT; exact wb_new _ hp) | (cases hT; exact wb_old _ _ hp.1 hp.2)
theorem ws_good : GoodM Tryz.prog (ws_m std) := by
  intro raw ob T hT hp
  unfold ws_m at hT
  simp only at hT
  repeat' split at hT
  all_goals first | (cases hT; done) | (cases hT; exact ws_old _ _ hp)
theorem bs_good : GoodM Tryz.prog (bs_m std) := by
  intro raw ob T hT hp
  unfold bs_m at hT
  simp only at hT
  repeat' split at hT
  all_goals first | (cases hT; done) | (cases hT; exact bs_old _ hp.1 hp.2)
theorem bl_good : GoodM Tryz.prog (bl_m std) := by
  intro raw ob T hT hp
  unfold bl_m at hT
  simp only at hT
  repeat' split at hT
  all_goals first | (cases hT; done) | (cases hT; exact bl_old _)
end Sy
end Go.Proofs.YtcgikjfloloekaaGreatDoor
namespace Go.Proofs.YtcgikjfloloekaaGreatDoor
namespace Sy
open Go Go.RowKit
set_option maxRecDepth 100000
set_option linter.unusedSimpArgs false
set_option linter.unusedVariables false
inductive CV where
  | mk (k n : Int) (s : List UInt8) (l : List CV)
namespace CV
def kd : CV → Int
  | mk k _ _ _ => k
def nn : CV → Int
  | mk _ n _ _ => n
def tx : CV → List UInt8
  | mk _ _ s _ => s
def ls : CV → List CV
  | mk _ _ _ l => l
theorem eta (v : CV) : mk v.kd v.nn v.tx v.ls = v := by cases v; rfl
end CV
def nthV (l : List CV) (i : Nat) : CV := l.getD i (.mk 0 0 [] [])
def lenL (l : List CV) : Nat := l.length
def lenV (v : CV) : Nat := v.ls.length
def sizeC : CV → Nat
  | .mk _ _ _ l => sizeCs l + 1
where sizeCs : List CV → Nat
  | [] => 0
  | v :: l => sizeC v + sizeCs l
abbrev sizeCs := sizeC.sizeCs
theorem sizeCs_nil : sizeCs [] = 0 := by simp [sizeC.sizeCs]
theorem sizeCs_cons (v : CV) (l : List CV) : sizeCs (v :: l) = sizeC v + sizeCs l := by simp [sizeC.sizeCs]
theorem sizeC_mk (k n : Int) (s : List UInt8) (l : List CV) : sizeC (.mk k n s l) = sizeCs l + 1 := by rw [sizeC]
theorem sizeC_pos (v : CV) : 0 < sizeC v := by cases v; rw [sizeC_mk]; omega
theorem sizeC_nth : ∀ (l : List CV) (i : Nat), i < l.length → sizeC (nthV l i) ≤ sizeCs l
  | [], i, h => by simp at h
  | v :: l, 0, h => by rw [sizeCs_cons]; show sizeC v ≤ _; omega
  | v :: l, i + 1, h => by
    have := sizeC_nth l i (by simpa using h)
    rw [sizeCs_cons]
    show sizeC (nthV l i) ≤ _
    omega
theorem nthV_mem {l : List CV} {i : Nat} (h : i < l.length) : nthV l i ∈ l := by
  rw [nthV, List.getD_eq_getElem?_getD, List.getElem?_eq_getElem h]; exact List.getElem_mem h
theorem cv_ind {p : CV → Prop} (h : ∀ k n s l, (∀ v ∈ l, p v) → p (.mk k n s l)) : ∀ (m : Nat) (v : CV), sizeC v ≤ m → p v
  | 0, v, hv => by have := sizeC_pos v; omega
  | m + 1, .mk k n s l, hv => h k n s l fun w hw => by
    rw [sizeC_mk] at hv
    obtain ⟨i, hi, rfl⟩ := List.getElem_of_mem hw
    have := sizeC_nth l i hi
    have e : nthV l i = l[i] := by rw [nthV, List.getD_eq_getElem?_getD, List.getElem?_eq_getElem hi]; rfl
    rw [e] at this
    exact cv_ind h m _ (by omega)
theorem cv_all {p : CV → Prop} (h : ∀ k n s l, (∀ v ∈ l, p v) → p (.mk k n s l)) (v : CV) : p v := cv_ind h _ v (Nat.le_refl _)
def dflC : Nat → AV
  | 0 => .int .i64 0
  | 1 => .int .u64 0
  | 2 => .str []
  | _ => .lst 4 0 (fun _ _ => .dead)
mutual
def cvCell : CV → Nat → AV
  | .mk k n s l, j => match j with
    | 0 => .int .i64 k
    | 1 => .int .u64 n
    | 2 => .str s
    | _ => .lst 4 l.length (cvGet l)
def cvGet : List CV → Nat → Nat → AV
  | [], _, j => dflC j
  | v :: l, i, j => match i with
    | 0 => cvCell v j
    | i + 1 => cvGet l i j
end
theorem cvCell_0 (v : CV) : cvCell v 0 = .int .i64 v.kd := by cases v; rw [cvCell]; rfl
theorem cvCell_1 (v : CV) : cvCell v 1 = .int .u64 v.nn := by cases v; rw [cvCell]; rfl
theorem cvCell_2 (v : CV) : cvCell v 2 = .str v.tx := by cases v; rw [cvCell]; rfl
theorem cvCell_3 (v : CV) : cvCell v 3 = .lst 4 v.ls.length (cvGet v.ls) := by cases v; rw [cvCell] <;> first | rfl | (intro h; cases h)
theorem cvGet_nth : ∀ (l : List CV) (i j : Nat), i < l.length → cvGet l i j = cvCell (nthV l i) j
  | [], i, j, h => by simp at h
  | v :: l, 0, j, h => by rw [cvGet]; rfl
  | v :: l, i + 1, j, h => by rw [cvGet]; exact cvGet_nth l i j (by simpa using h)
def cvIn (v : CV) : Nat → Nat → AV := cvGet v.ls
def cv1 (L : Seal) (v : CV) : Nat → AV
  | 0 => .int .i64 (L CV.kd v)
  | 1 => .int .u64 (L CV.nn v)
  | 2 => .str (L CV.tx v)
  | _ => .lst 4 (L lenV v) (L cvIn v)
theorem cv1_std (v : CV) (j : Nat) (h : j < 4) : cv1 std v j = cvCell v j := by
  match j, h with
  | 0, _ => rw [cvCell_0]; rfl
  | 1, _ => rw [cvCell_1]; rfl
  | 2, _ => rw [cvCell_2]; rfl
  | 3, _ => rw [cvCell_3]; rfl
def cvL (L : Seal) (l : List CV) : AV := .lst 4 (L lenL l) (fun i j => cv1 L (L2 L nthV l i) j)
def cvA (L : Seal) (v : CV) : AV := .agg [.int .i64 (L CV.kd v), .int .u64 (L CV.nn v), .str (L CV.tx v), .lst 4 (L lenV v) (L cvIn v)]
def rdL : AV → List CV
  | .lst _ n get => (List.range n).map fun i => .mk (get i 0).toI (get i 1).toI (match get i 2 with | .str s => s | _ => []) (rdL (get i 3))
  | _ => []
def okL : AV → Prop
  | .lst sz n get => sz = 4 ∧ ∀ i, i < n → (∃ x, get i 0 = .int .i64 x) ∧ (∃ x, get i 1 = .int .u64 x) ∧ (∃ x, get i 2 = .str x) ∧ okL (get i 3)
  | .nils => True
  | _ => False
theorem rd_len (sz n : Nat) (get : Nat → Nat → AV) : (rdL (.lst sz n get)).length = n := by simp [rdL]
theorem rd_nth {sz n : Nat} {get : Nat → Nat → AV} {i : Nat} (h : i < n) : nthV (rdL (.lst sz n get)) i = .mk (get i 0).toI (get i 1).toI (match get i 2 with | .str s => s | _ => []) (rdL (get i 3)) := by
  rw [nthV, List.getD_eq_getElem?_getD, rdL]
  simp [h]
theorem cv_ext {a b : List CV} (h : a.length = b.length) (k : ∀ i, i < a.length → nthV a i = nthV b i) : a = b := by
  apply List.ext_getElem h
  intro i h1 h2
  have := k i h1
  rw [nthV, nthV, List.getD_eq_getElem?_getD, List.getD_eq_getElem?_getD, List.getElem?_eq_getElem h1, List.getElem?_eq_getElem h2] at this
  exact this
theorem rd_cell : ∀ v : CV, rdL (cvCell v 3) = v.ls ∧ okL (cvCell v 3) := by
  refine cv_all fun k n s l ih => ?_
  rw [cvCell_3]
  show rdL (.lst 4 l.length (cvGet l)) = l ∧ okL (.lst 4 l.length (cvGet l))
  refine ⟨cv_ext (rd_len _ _ _) fun i hi => ?_, rfl, fun i hi => ?_⟩
  · rw [rd_len] at hi
    rw [rd_nth hi, cvGet_nth _ _ _ hi, cvGet_nth _ _ _ hi, cvGet_nth _ _ _ hi, cvGet_nth _ _ _ hi, cvCell_0, cvCell_1, cvCell_2, (ih _ (nthV_mem hi)).1]
    exact CV.eta _
  · rw [cvGet_nth _ _ _ hi, cvGet_nth _ _ _ hi, cvGet_nth _ _ _ hi, cvGet_nth _ _ _ hi, cvCell_0, cvCell_1, cvCell_2]
    exact ⟨⟨_, rfl⟩, ⟨_, rfl⟩, ⟨_, rfl⟩, (ih _ (nthV_mem hi)).2⟩
theorem rd_in (v : CV) : rdL (.lst 4 (lenV v) (cvIn v)) = v.ls ∧ okL (.lst 4 (lenV v) (cvIn v)) := by
  have := rd_cell v
  rw [cvCell_3] at this
  exact this
theorem rd_list (l : List CV) : rdL (cvL std l) = l ∧ okL (cvL std l) := by
  refine ⟨cv_ext (rd_len _ _ _) fun i hi => ?_, rfl, fun i hi => ⟨⟨_, rfl⟩, ⟨_, rfl⟩, ⟨_, rfl⟩, (rd_in _).2⟩⟩
  have hi : i < l.length := by rw [show (rdL (cvL std l)).length = lenL l from rd_len _ _ _] at hi; exact hi
  show nthV (rdL (.lst 4 (lenL l) _)) i = _
  rw [rd_nth (show i < lenL l from hi)]
  show CV.mk (nthV l i).kd (nthV l i).nn (nthV l i).tx (rdL (.lst 4 (lenV (nthV l i)) (cvIn (nthV l i)))) = _
  rw [(rd_in _).1, CV.eta]
theorem okL_R {h : Array Obj} {D : Nat → Prop} : ∀ (x : AV) {μ : Mu} {v : Value}, okL x → R h D μ x v → R h D μ (.lst 4 (rdL x).length (cvGet (rdL x))) v := by
  intro x μ v ho r
  induction r with
  | nils => exact .lst0 _ _ _ _ (fun _ => rfl)
  | lst0 sz get a cap hn => exact .lst0 _ _ _ _ hn
  | lst sz n get b o cap vs hD hc hv h1 hr ih =>
    obtain ⟨rfl, ho⟩ := ho
    rw [rd_len]
    refine .lst _ _ _ b o cap vs hD hc hv h1 (fun i j hi hj => ?_)
    rw [cvGet_nth _ _ _ (by rw [rd_len]; exact hi), rd_nth hi]
    obtain ⟨⟨x0, e0⟩, ⟨x1, e1⟩, ⟨x2, e2⟩, o3⟩ := ho i hi
    have hj' := hr i j hi hj
    match j, hj with
    | 0, _ => rw [cvCell_0]; rw [e0] at hj' ⊢; exact hj'
    | 1, _ => rw [cvCell_1]; rw [e1] at hj' ⊢; exact hj'
    | 2, _ => rw [cvCell_2]; rw [e2] at hj' ⊢; exact hj'
    | 3, _ => rw [cvCell_3]; exact ih i 3 hi (by omega) o3
  | _ => exact ho.elim
theorem cvL_R {h : Array Obj} {D : Nat → Prop} {μ : Mu} {l : List CV} {v : Value} (r : R h D μ (.lst 4 l.length (cvGet l)) v) : R h D μ (cvL std l) v :=
  lst_same r fun i j hi hj => by
    rw [cvGet_nth _ _ _ hi]
    exact (cv1_std _ j hj).symm
mutual
def deepV : CV → Int
  | .mk k _ _ l => if k = 3 then deepLs l + 1 else 0
def deepLs : List CV → Int
  | [] => 0
  | v :: l => max (deepV v) (deepLs l)
end
theorem deepLs_app : ∀ a b : List CV, deepLs (a ++ b) = max (deepLs a) (deepLs b)
  | [], b => by
    rw [List.nil_append, deepLs]
    have : ∀ b : List CV, 0 ≤ deepLs b := by
      intro b
      induction b with
      | nil => rw [deepLs]; omega
      | cons v l ih => rw [deepLs]; omega
    have := this b
    omega
  | v :: a, b => by rw [List.cons_append, deepLs, deepLs_app a b, deepLs]; omega
theorem take_nth {l : List CV} {i : Nat} (h : i < l.length) : l.take (i + 1) = l.take i ++ [nthV l i] := by
  rw [List.take_succ_eq_append_getElem h, nthV, List.getD_eq_getElem?_getD, List.getElem?_eq_getElem h]; rfl
def deepTo (l : List CV) (i : Nat) : Int := deepLs (l.take i)
theorem deepTo_succ {l : List CV} {i : Nat} (h : i < l.length) : deepTo l (i + 1) = max (deepTo l i) (deepV (nthV l i)) := by
  unfold deepTo
  rw [take_nth h, deepLs_app, deepLs, deepLs]
  have : 0 ≤ deepV (nthV l i) ∨ True := .inr trivial
  have h0 : ∀ b : List CV, 0 ≤ deepLs b := by
    intro b
    induction b with
    | nil => rw [deepLs]; omega
    | cons v l ih => rw [deepLs]; omega
  have := h0 (l.take i)
  omega
mutual
def bareV : CV → Bool
  | .mk k n s l => if k = 1 then decide (s = []) && l.isEmpty else if k = 2 then decide (n = 0) && l.isEmpty else if k = 3 then decide (n = 0) && decide (s = []) && bareLs l else false
def bareLs : List CV → Bool
  | [] => true
  | v :: l => bareV v && bareLs l
end
def byteK (k : Int) : List UInt8 := [UInt8.ofNat (k % 256).toNat]
mutual
def textV : CV → List UInt8
  | .mk k n s l => byteK k ++ if k = 1 then shortZ n else if k = 2 then shortZ s.length ++ s else shortZ l.length ++ textLs l
def textLs : List CV → List UInt8
  | [] => []
  | v :: l => textV v ++ textLs l
end
theorem textLs_app : ∀ a b : List CV, textLs (a ++ b) = textLs a ++ textLs b
  | [], b => by rw [textLs]; rfl
  | v :: a, b => by rw [List.cons_append, textLs, textLs_app a b, textLs, List.append_assoc]
def textTo (l : List CV) (i : Nat) : List UInt8 := textLs (l.take i)
theorem textTo_succ {l : List CV} {i : Nat} (h : i < l.length) : textTo l (i + 1) = textTo l i ++ textV (nthV l i) := by
  unfold textTo
  rw [take_nth h, textLs_app, textLs, textLs, List.append_nil]
end Sy
end Go.Proofs.YtcgikjfloloekaaGreatDoor
namespace Go.Proofs.YtcgikjfloloekaaGreatDoor
namespace Sy
open Go Go.RowKit
set_option maxRecDepth 100000
set_option linter.unusedSimpArgs false
set_option linter.unusedVariables false
def mkV (L : Seal) (k n : Int) (s : List UInt8) (x : AV) : CV := L (L (L (L CV.mk k) n) s) (L rdL x)
def szOk (N : Nat) (v : CV) : Prop := sizeC v ≤ N ∧ N ≤ 1000000
def szOks (N : Nat) (l : List CV) : Prop := sizeCs l ≤ N ∧ N ≤ 1000000
theorem len_sz : ∀ l : List CV, l.length ≤ sizeCs l
  | [] => by simp
  | v :: l => by
    have := len_sz l
    have := sizeC_pos v
    rw [sizeCs_cons, List.length_cons]; omega
theorem nth_sz {N : Nat} {l : List CV} {i : Nat} (h : szOks N l) (hi : i < l.length) : szOk N (nthV l i) := by
  have := sizeC_nth l i hi
  exact ⟨by have := h.1; omega, h.2⟩
theorem sizeC_mk_ok {N : Nat} {k n : Int} {s : List UInt8} {l : List CV} : szOk (N + 1) (.mk k n s l) = (szOks N l ∧ N + 1 ≤ 1000000) := by
  unfold szOk szOks
  rw [sizeC_mk]
  exact propext ⟨fun h => ⟨⟨by omega, by omega⟩, by omega⟩, fun h => ⟨by have := h.1.1; omega, h.2⟩⟩
theorem mk_parts (v : CV) : CV.mk v.kd v.nn v.tx (rdL (.lst 4 (lenV v) (cvIn v))) = v := by rw [(rd_in v).1]; exact CV.eta v
theorem mkV_parts (v : CV) : mkV std v.kd v.nn v.tx (.lst 4 (lenV v) (cvIn v)) = v := mk_parts v
theorem rdl (l : List CV) : rdL (.lst 4 (lenL l) fun i => cv1 std (nthV l i)) = l := (rd_list l).1
theorem okl (l : List CV) : okL (.lst 4 (lenL l) fun i => cv1 std (nthV l i)) := (rd_list l).2
theorem mkl (k n : Int) (s : List UInt8) (l : List CV) : mkV std k n s (.lst 4 (lenL l) fun i => cv1 std (nthV l i)) = .mk k n s l := by
  show CV.mk k n s (rdL _) = _
  rw [rdl]
theorem val_R {h : Array Obj} {D : Nat → Prop} {μ : Mu} {a b c x : AV} {v : Value} (ho : okL x) (r : R h D μ (.agg [a, b, c, x]) v) : R h D μ (.agg [a, b, c, cvL std (rdL x)]) v := by
  obtain ⟨us, rfl, o1, s1, hr⟩ := r.inv_agg
  refine .agg _ _ (by rw [← s1]; rfl) o1 fun i y v hy hv => ?_
  match i, hy with
  | 0, hy => cases hy; exact hr 0 _ v rfl hv
  | 1, hy => cases hy; exact hr 1 _ v rfl hv
  | 2, hy => cases hy; exact hr 2 _ v rfl hv
  | 3, hy => cases hy; exact cvL_R (okL_R x ho (hr 3 _ v rfl hv))
  | i + 4, hy => simp at hy
theorem rl_1 {h : Array Obj} {D : Nat → Prop} {μ : Mu} {x y : AV} {r : List AV} {vs : Array Value} (e : ∀ v, R h D μ x v → R h D μ y v) (hr : RL h D μ (x :: r) vs) : RL h D μ (y :: r) vs := by
  refine ⟨by rw [← hr.1]; rfl, fun i z v hz hv => ?_⟩
  cases i with
  | zero => cases hz; exact e v (hr.2 0 x v rfl hv)
  | succ i => exact hr.2 (i + 1) z v hz hv
theorem rl_2 {h : Array Obj} {D : Nat → Prop} {μ : Mu} {a x y : AV} {r : List AV} {vs : Array Value} (e : ∀ v, R h D μ x v → R h D μ y v) (hr : RL h D μ (a :: x :: r) vs) : RL h D μ (a :: y :: r) vs := by
  refine ⟨by rw [← hr.1]; rfl, fun i z v hz hv => ?_⟩
  match i, hz with
  | 0, hz => exact hr.2 0 z v hz hv
  | 1, hz => cases hz; exact e v (hr.2 1 x v rfl hv)
  | i + 2, hz => exact hr.2 (i + 2) z v hz hv
theorem ac_args' {P : Program} {f : FuncId} {xs ys : List AV} {r : AV} (h : ∀ h D vs, RL h D noMu xs vs → RL h D noMu ys vs) (ha : ACalls P f ys r) : ACalls P f xs r := fun D w vs hD hx => ha D w vs hD (h _ _ _ hx)
theorem ac_v {P : Program} {f : FuncId} {a b c x r : AV} (ho : okL x) (h : ACalls P f [.agg [a, b, c, cvL std (rdL x)]] r) : ACalls P f [.agg [a, b, c, x]] r :=
  ac_args' (fun h D vs hr => rl_1 (fun v => val_R ho) hr) h
theorem list_R {h : Array Obj} {D : Nat → Prop} {μ : Mu} {x : AV} {v : Value} (ho : okL x) (r : R h D μ x v) : R h D μ (cvL std (rdL x)) v := cvL_R (okL_R x ho r)
theorem ac_l {P : Program} {f : FuncId} {x r : AV} {q : List AV} (ho : okL x) (h : ACalls P f (cvL std (rdL x) :: q) r) : ACalls P f (x :: q) r :=
  ac_args' (fun h D vs hr => rl_1 (fun v => list_R ho) hr) h
def deepA (L : Seal) (l : List CV) : Nat → St → Option Ann := fun id s => match id with
  | 0 => some ⟨Nat, fun i => [(12, .int .i64 (L natI i)), (3, .int .i64 (L2 L deepTo l i))], fun i => [], [10, 11], [],
      fun i => L2 L (fun (l : List CV) i => i ≤ l.length) l i, fun i => L2 L (fun (l : List CV) (i : Nat) => l.length - i) l i⟩
  | _ => none
def deep_s (N : Nat) (L : Seal) : Ent1 := (53, fun xs => match xs with
  | [.agg [.int .i64 k, .int .u64 n, .str s, x]] => some (L okL x ∧ L2 L szOk N (mkV L k n s x), .int .i64 (L deepV (mkV L k n s x)))
  | _ => none)
theorem deep_le : ∀ v, 0 ≤ deepV v ∧ deepV v ≤ (sizeC v : Int) := by
  refine cv_all fun k n s l ih => ?_
  have : ∀ m : List CV, (∀ v ∈ m, 0 ≤ deepV v ∧ deepV v ≤ (sizeC v : Int)) → 0 ≤ deepLs m ∧ deepLs m ≤ (sizeCs m : Int) := by
    intro m
    induction m with
    | nil => intro _; rw [deepLs, sizeCs_nil]; omega
    | cons v m ih =>
      intro h
      have h1 := h v (by simp)
      have h2 := ih fun w hw => h w (by simp [hw])
      rw [deepLs, sizeCs_cons]; omega
  have := this l ih
  rw [deepV, sizeC_mk]
  split <;> omega
theorem deepTo_le (l : List CV) (i : Nat) : 0 ≤ deepTo l i ∧ deepTo l i ≤ (sizeCs l : Int) := by
  have h1 : ∀ m : List CV, 0 ≤ deepLs m ∧ deepLs m ≤ (sizeCs m : Int) := by
    intro m
    induction m with
    | nil => rw [deepLs, sizeCs_nil]; omega
    | cons v m ih => have := deep_le v; rw [deepLs, sizeCs_cons]; omega
  have h2 := h1 (l.take i)
  have h3 : ∀ (m : List CV) (i : Nat), sizeCs (m.take i) ≤ sizeCs m := by
    intro m
    induction m with
    | nil => intro i; simp
    | cons v m ih =>
      intro i
      cases i with
      | zero => rw [List.take_zero, sizeCs_nil]; omega
      | succ i => have := ih i; rw [List.take_succ_cons, sizeCs_cons, sizeCs_cons]; omega
  have := h3 l i
  exact ⟨h2.1, by unfold deepTo; omega⟩
theorem deep_good : ∀ N, Good Tryz.prog (deep_s N std) := by
  intro N
  induction N with
  | zero =>
    intro xs p r h hp
    unfold deep_s at h
    simp only at h
    split at h
    · rename_i k n s x
      cases h
      have h1 : sizeC (mkV std k n s x) ≤ 0 := hp.2.1
      have := sizeC_pos (mkV std k n s x)
      omega
    · cases h
  | succ N ih =>
    intro xs p r h hp
    unfold deep_s at h
    simp only at h
    split at h
    · rename_i k n s x
      cases h
      obtain ⟨ho, hz⟩ := hp
      refine ac_v ho ?_
      show ACalls _ _ _ (.int .i64 (deepV (.mk k n s (rdL x))))
      have hz : szOk (N + 1) (.mk k n s (rdL x)) := hz
      generalize rdL x = l at hz ⊢
      refine acalls_L' (T := tt) (S := fun L => sumOf [deep_s N L]) (lo := fun L => deepA L l) (lb := noA) 5 (fn := Tryz.f53) (xs := fun L => [.agg [.int .i64 k, .int .u64 n, .str s, cvL L l]]) rfl rfl (by kernel_rfl) (by kernel_rfl) rfl tt_ok
        (sumOf_ok ⟨ih, trivial⟩) (by kernel_rfl) ?_
      intro L P' Q' hL hP hQ
      (cbv; try simp only [sat_need, sat_must, sat_ite, sat_done, sat_yes, sat_ex, sat_all, sat_sup, sat_and, sat_fail, true_and, and_true])
      refine ⟨fun h => ?_, fun h => ⟨⟨0, ?_⟩, fun i hi => ?_⟩⟩
      · (subst hL; subst hQ; simp only [L2, L3, std] at *; try simp only [sySet, syB, reduceCtorEq, forall_const, Int.reduceToNat, Int.reduceAdd, Int.reduceSub, Int.cast_ofNat_Int, Int.toNat_natCast, Nat.le_eq, Nat.sub_eq, ne_eq, implies_true, wadd, wsub, wmul, Nat.succ_eq_add_one] at *)
        rw [deepV, if_neg h]
      · (cbv; try simp only [sat_need, sat_must, sat_ite, sat_done, sat_yes, sat_ex, sat_all, sat_sup, sat_and, sat_fail, true_and, and_true])
        (subst hL; subst hQ; simp only [L2, L3, std] at *; try simp only [sySet, syB, reduceCtorEq, forall_const, Int.reduceToNat, Int.reduceAdd, Int.reduceSub, Int.cast_ofNat_Int, Int.toNat_natCast, Nat.le_eq, Nat.sub_eq, ne_eq, implies_true, wadd, wsub, wmul, Nat.succ_eq_add_one] at *)
        exact ⟨by rw [deepTo, List.take_zero, deepLs], Nat.zero_le _⟩
      · cbv at hi
        (cbv; try simp only [sat_need, sat_must, sat_ite, sat_done, sat_yes, sat_ex, sat_all, sat_sup, sat_and, sat_fail, true_and, and_true])
        refine ⟨fun hlt => ⟨?_, ⟨?_, ?_⟩, ⟨i + 1, ?_⟩⟩, fun hge => ?_⟩
        · (subst hL; subst hQ; simp only [L2, L3, std] at *; try simp only [sySet, syB, reduceCtorEq, forall_const, Int.reduceToNat, Int.reduceAdd, Int.reduceSub, Int.cast_ofNat_Int, Int.toNat_natCast, Nat.le_eq, Nat.sub_eq, ne_eq, implies_true, wadd, wsub, wmul, Nat.succ_eq_add_one] at *)
          omega
        · (subst hL; subst hQ; simp only [L2, L3, std] at *; try simp only [sySet, syB, reduceCtorEq, forall_const, Int.reduceToNat, Int.reduceAdd, Int.reduceSub, Int.cast_ofNat_Int, Int.toNat_natCast, Nat.le_eq, Nat.sub_eq, ne_eq, implies_true, wadd, wsub, wmul, Nat.succ_eq_add_one] at *)
          exact (rd_in _).2
        · (subst hL; subst hQ; simp only [L2, L3, std] at *; try simp only [sySet, syB, reduceCtorEq, forall_const, Int.reduceToNat, Int.reduceAdd, Int.reduceSub, Int.cast_ofNat_Int, Int.toNat_natCast, Nat.le_eq, Nat.sub_eq, ne_eq, implies_true, wadd, wsub, wmul, Nat.succ_eq_add_one] at *)
          rw [mk_parts]
          rw [sizeC_mk_ok] at hz
          exact nth_sz hz.1 (by have : lenL l = l.length := rfl; omega)
        · (cbv; try simp only [sat_need, sat_must, sat_ite, sat_done, sat_yes, sat_ex, sat_all, sat_sup, sat_and, sat_fail, true_and, and_true])
          (subst hL; subst hQ; simp only [L2, L3, std] at *; try simp only [sySet, syB, reduceCtorEq, forall_const, Int.reduceToNat, Int.reduceAdd, Int.reduceSub, Int.cast_ofNat_Int, Int.toNat_natCast, Nat.le_eq, Nat.sub_eq, ne_eq, implies_true, wadd, wsub, wmul, Nat.succ_eq_add_one] at *)
          have : lenL l = l.length := rfl
          have := len_sz l
          have h1 := hz.1
          have h2 := hz.2
          rw [sizeC_mk] at h1
          rw [mkV_parts]
          exact ⟨by rw [deepTo_succ (by omega)], by omega, by omega, by omega⟩
        · (subst hL; subst hQ; simp only [L2, L3, std] at *; try simp only [sySet, syB, reduceCtorEq, forall_const, Int.reduceToNat, Int.reduceAdd, Int.reduceSub, Int.cast_ofNat_Int, Int.toNat_natCast, Nat.le_eq, Nat.sub_eq, ne_eq, implies_true, wadd, wsub, wmul, Nat.succ_eq_add_one] at *)
          have : lenL l = l.length := rfl
          have hil : i = l.length := by omega
          have h3 := deepTo_le l i
          have h1 := hz.1
          have h2 := hz.2
          rw [sizeC_mk] at h1
          rw [deepV, if_pos h, hil, deepTo, List.take_length]
          rw [hil, deepTo, List.take_length] at h3
          omega
    · cases h
end Sy
end Go.Proofs.YtcgikjfloloekaaGreatDoor
namespace Go.Proofs.YtcgikjfloloekaaGreatDoor
namespace Sy
open Go Go.RowKit
set_option maxRecDepth 100000
set_option linter.unusedSimpArgs false
set_option linter.unusedVariables false
theorem bareLs_all : ∀ l : List CV, bareLs l = true ↔ ∀ i, i < l.length → bareV (nthV l i) = true
  | [] => by rw [bareLs]; simp
  | v :: l => by
    rw [bareLs, Bool.and_eq_true, bareLs_all l]
    refine ⟨fun ⟨h1, h2⟩ i hi => ?_, fun h => ⟨h 0 (by simp), fun i hi => h (i + 1) (by simpa using hi)⟩⟩
    cases i with
    | zero => exact h1
    | succ i => exact h2 i (by simpa using hi)
def idxB (l : List CV) : Int := if bareLs l = true then -1 else (l.findIdx fun v => !bareV v : Nat)
def bareTo (l : List CV) (i : Nat) : Prop := i ≤ l.length ∧ ∀ j, j < i → bareV (nthV l j) = true
theorem idxB_at {l : List CV} {i : Nat} (hi : i < l.length) (h : ∀ j, j < i → bareV (nthV l j) = true) (hn : bareV (nthV l i) = false) : idxB l = (i : Int) := by
  have hb : ¬ bareLs l = true := by
    rw [bareLs_all]
    intro h2
    have := h2 i hi
    rw [hn] at this; cases this
  rw [idxB, if_neg hb]
  congr 1
  rw [List.findIdx_eq hi]
  have get : ∀ (j : Nat) (hj : j < l.length), l[j] = nthV l j := by
    intro j hj
    rw [nthV, List.getD_eq_getElem?_getD, List.getElem?_eq_getElem hj]; rfl
  refine ⟨by rw [get i hi, hn]; rfl, fun j hj => ?_⟩
  have hj' := h j hj
  rw [get j (by omega), hj']; rfl
theorem idxB_neg {l : List CV} (h : ∀ j, j < l.length → bareV (nthV l j) = true) : idxB l = -1 := by rw [idxB, if_pos ((bareLs_all l).2 h)]
theorem idxB_ge (l : List CV) : (0 ≤ idxB l) = (bareLs l = false) := by
  unfold idxB
  split
  · rename_i h; rw [h]; simp
  · rename_i h; simp at h; rw [h]; simp
def b1_s (N : Nat) (L : Seal) : Ent1 := (84, fun xs => match xs with
  | [.agg [.int .i64 k, .int .u64 n, .str s, x]] => some (L okL x ∧ L2 L szOk N (mkV L k n s x), .bool (L not (L bareV (mkV L k n s x))))
  | _ => none)
def if_s (N : Nat) (L : Seal) : Ent1 := (116, fun xs => match xs with
  | [x, .fn 84 [] []] => some (L okL x ∧ L2 L szOks N (L rdL x), .int .i64 (L idxB (L rdL x)))
  | _ => none)
def cf_s (N : Nat) (L : Seal) : Ent1 := (83, fun xs => match xs with
  | [x, .fn 84 [] []] => some (L okL x ∧ L2 L szOks N (L rdL x), .bool (L not (L bareLs (L rdL x))))
  | _ => none)
def bare_s (N : Nat) (L : Seal) : Ent1 := (52, fun xs => match xs with
  | [.agg [.int .i64 k, .int .u64 n, .str s, x]] => some (L okL x ∧ L2 L szOk N (mkV L k n s x), .bool (L bareV (mkV L k n s x)))
  | _ => none)
theorem lenL0 (l : List CV) : ieq ((lenL l : Nat) : Int) 0 = l.isEmpty := by
  cases l with
  | nil => rfl
  | cons v l =>
    simp [lenL, ieq]
    omega
theorem ile_f' (a b : Int) : (ile a b = false) = ¬ a ≤ b := by simp [ile]
theorem b1_of {N : Nat} (ih : Good Tryz.prog (bare_s N std)) : Good Tryz.prog (b1_s N std) := by
  intro xs p r h hp
  unfold b1_s at h
  simp only at h
  split at h
  rotate_left
  · cases h
  rename_i k n s x
  cases h
  obtain ⟨ho, hz⟩ := hp
  refine ac_v ho ?_
  rw [show mkV std k n s x = .mk k n s (rdL x) from rfl] at hz ⊢
  generalize rdL x = l at hz ⊢
  have hz : szOk N (.mk k n s l) := hz
  refine acalls_L' (xs := fun L => [.agg [.int .i64 k, .int .u64 n, .str s, cvL L l]]) (T := tt) (S := fun L => sumOf [bare_s N L]) (lo := noA) (lb := noA) 5 (fn := Tryz.f84) rfl rfl (by kernel_rfl) (by kernel_rfl) rfl tt_ok (sumOf_ok ⟨ih, trivial⟩) (by kernel_rfl) ?_
  intro L P' Q' hL hP hQ
  (cbv; try simp only [sat_need, sat_must, sat_ite, sat_done, sat_yes, sat_ex, sat_all, sat_sup, sat_and, sat_fail, true_and, and_true])
  (subst hL; subst hQ; simp only [L2, L3, std] at *; try simp only [sySet, syB, reduceCtorEq, forall_const, Int.reduceToNat, Int.reduceAdd, Int.reduceSub, Int.cast_ofNat_Int, Int.toNat_natCast, Nat.le_eq, Nat.sub_eq, ne_eq, implies_true, wadd, wsub, wmul, Nat.succ_eq_add_one] at *)
  rw [rdl, mkl]
  exact ⟨⟨okl l, hz⟩, rfl⟩
def ifA (L : Seal) (l : List CV) : Nat → St → Option Ann := fun id s => match id with
  | 0 => some ⟨Nat, fun i => [(8, .int .i64 (L natI i))], fun i => [], [0, 1, 6, 7], [],
      fun i => L2 L bareTo l i, fun i => L2 L (fun (l : List CV) (i : Nat) => l.length - i) l i⟩
  | _ => none
theorem if_of {N : Nat} (ih : Good Tryz.prog (b1_s N std)) : Good Tryz.prog (if_s N std) := by
  intro xs p r h hp
  unfold if_s at h
  simp only at h
  split at h
  rotate_left
  · cases h
  rename_i x
  cases h
  obtain ⟨ho, hz⟩ := hp
  refine ac_l ho ?_
  have hz : szOks N (rdL x) := hz
  show ACalls _ _ _ (.int .i64 (idxB (rdL x)))
  generalize rdL x = l at hz ⊢
  refine acalls_L' (T := tt) (S := fun L => sumOf [b1_s N L]) (lo := fun L => ifA L l) (lb := noA) 5 (fn := Tryz.f116) (xs := fun L => [cvL L l, .fn 84 [] []]) rfl rfl (by kernel_rfl) (by kernel_rfl) rfl tt_ok
    (sumOf_ok ⟨ih, trivial⟩) (by kernel_rfl) ?_
  intro L P' Q' hL hP hQ
  (cbv; try simp only [sat_need, sat_must, sat_ite, sat_done, sat_yes, sat_ex, sat_all, sat_sup, sat_and, sat_fail, true_and, and_true])
  refine ⟨⟨0, ?_⟩, fun i hi => ?_⟩
  · (cbv; try simp only [sat_need, sat_must, sat_ite, sat_done, sat_yes, sat_ex, sat_all, sat_sup, sat_and, sat_fail, true_and, and_true])
    (subst hL; subst hQ; simp only [L2, L3, std] at *; try simp only [sySet, syB, reduceCtorEq, forall_const, Int.reduceToNat, Int.reduceAdd, Int.reduceSub, Int.cast_ofNat_Int, Int.toNat_natCast, Nat.le_eq, Nat.sub_eq, ne_eq, implies_true, wadd, wsub, wmul, Nat.succ_eq_add_one] at *)
    exact ⟨Nat.zero_le _, fun j hj => by omega⟩
  · cbv at hi
    (cbv; try simp only [sat_need, sat_must, sat_ite, sat_done, sat_yes, sat_ex, sat_all, sat_sup, sat_and, sat_fail, true_and, and_true])
    refine ⟨fun hlt => ⟨?_, ⟨?_, ?_⟩, fun hb => ?_, fun hb => ⟨i + 1, ?_⟩⟩, fun hge => ?_⟩
    · (subst hL; subst hQ; simp only [L2, L3, std] at *; try simp only [sySet, syB, reduceCtorEq, forall_const, Int.reduceToNat, Int.reduceAdd, Int.reduceSub, Int.cast_ofNat_Int, Int.toNat_natCast, Nat.le_eq, Nat.sub_eq, ne_eq, implies_true, wadd, wsub, wmul, Nat.succ_eq_add_one] at *)
      omega
    · (subst hL; subst hQ; simp only [L2, L3, std] at *; try simp only [sySet, syB, reduceCtorEq, forall_const, Int.reduceToNat, Int.reduceAdd, Int.reduceSub, Int.cast_ofNat_Int, Int.toNat_natCast, Nat.le_eq, Nat.sub_eq, ne_eq, implies_true, wadd, wsub, wmul, Nat.succ_eq_add_one] at *)
      exact (rd_in _).2
    · (subst hL; subst hQ; simp only [L2, L3, std] at *; try simp only [sySet, syB, reduceCtorEq, forall_const, Int.reduceToNat, Int.reduceAdd, Int.reduceSub, Int.cast_ofNat_Int, Int.toNat_natCast, Nat.le_eq, Nat.sub_eq, ne_eq, implies_true, wadd, wsub, wmul, Nat.succ_eq_add_one] at *)
      rw [mk_parts]
      exact nth_sz hz (by have : lenL l = l.length := rfl; omega)
    · (subst hL; subst hQ; simp only [L2, L3, std] at *; try simp only [sySet, syB, reduceCtorEq, forall_const, Int.reduceToNat, Int.reduceAdd, Int.reduceSub, Int.cast_ofNat_Int, Int.toNat_natCast, Nat.le_eq, Nat.sub_eq, ne_eq, implies_true, wadd, wsub, wmul, Nat.succ_eq_add_one] at *)
      rw [mkV_parts] at hb
      exact (idxB_at (by have : lenL l = l.length := rfl; omega) hi.2 hb).symm
    · (cbv; try simp only [sat_need, sat_must, sat_ite, sat_done, sat_yes, sat_ex, sat_all, sat_sup, sat_and, sat_fail, true_and, and_true])
      (subst hL; subst hQ; simp only [L2, L3, std] at *; try simp only [sySet, syB, reduceCtorEq, forall_const, Int.reduceToNat, Int.reduceAdd, Int.reduceSub, Int.cast_ofNat_Int, Int.toNat_natCast, Nat.le_eq, Nat.sub_eq, ne_eq, implies_true, wadd, wsub, wmul, Nat.succ_eq_add_one] at *)
      rw [mkV_parts] at hb
      have : lenL l = l.length := rfl
      have := len_sz l
      have h1 := hz.1
      have h2 := hz.2
      refine ⟨by omega, ⟨by omega, fun j hj => ?_⟩, by omega⟩
      by_cases e : j = i
      · rw [e]; exact hb
      · exact hi.2 j (by omega)
    · (subst hL; subst hQ; simp only [L2, L3, std] at *; try simp only [sySet, syB, reduceCtorEq, forall_const, Int.reduceToNat, Int.reduceAdd, Int.reduceSub, Int.cast_ofNat_Int, Int.toNat_natCast, Nat.le_eq, Nat.sub_eq, ne_eq, implies_true, wadd, wsub, wmul, Nat.succ_eq_add_one] at *)
      have : lenL l = l.length := rfl
      exact (idxB_neg fun j hj => hi.2 j (by omega)).symm
theorem cf_of {N : Nat} (ih : Good Tryz.prog (if_s N std)) : Good Tryz.prog (cf_s N std) := by
  intro xs p r h hp
  unfold cf_s at h
  simp only at h
  split at h
  rotate_left
  · cases h
  rename_i x
  cases h
  obtain ⟨ho, hz⟩ := hp
  refine ac_l ho ?_
  have hz : szOks N (rdL x) := hz
  show ACalls _ _ _ (.bool (not (bareLs (rdL x))))
  generalize rdL x = l at hz ⊢
  refine acalls_L' (xs := fun L => [cvL L l, .fn 84 [] []]) (T := tt) (S := fun L => sumOf [if_s N L]) (lo := noA) (lb := noA) 5 (fn := Tryz.f83) rfl rfl (by kernel_rfl) (by kernel_rfl) rfl tt_ok (sumOf_ok ⟨ih, trivial⟩) (by kernel_rfl) ?_
  intro L P' Q' hL hP hQ
  (cbv; try simp only [sat_need, sat_must, sat_ite, sat_done, sat_yes, sat_ex, sat_all, sat_sup, sat_and, sat_fail, true_and, and_true])
  (subst hL; subst hQ; simp only [L2, L3, std] at *; try simp only [sySet, syB, reduceCtorEq, forall_const, Int.reduceToNat, Int.reduceAdd, Int.reduceSub, Int.cast_ofNat_Int, Int.toNat_natCast, Nat.le_eq, Nat.sub_eq, ne_eq, implies_true, wadd, wsub, wmul, Nat.succ_eq_add_one] at *)
  rw [rdl]
  refine ⟨⟨okl l, hz⟩, ?_⟩
  have := idxB_ge l
  cases hb : bareLs l with
  | true =>
    rw [hb] at this
    simp only [Bool.true_eq_false, eq_iff_iff, iff_false] at this
    have h : ile 0 (idxB l) = false := by rw [ile_f']; exact this
    rw [h]; rfl
  | false =>
    rw [hb] at this
    simp only [eq_iff_iff, iff_true] at this
    simpa [ile] using this
theorem bare_good : ∀ N, Good Tryz.prog (bare_s N std) := by
  intro N
  induction N with
  | zero =>
    intro xs p r h hp
    unfold bare_s at h
    simp only at h
    split at h
    · rename_i k n s x
      cases h
      have h1 : sizeC (mkV std k n s x) ≤ 0 := hp.2.1
      have := sizeC_pos (mkV std k n s x)
      omega
    · cases h
  | succ N ih =>
    intro xs p r h hp
    unfold bare_s at h
    simp only at h
    split at h
    rotate_left
    · cases h
    rename_i k n s x
    cases h
    obtain ⟨ho, hz⟩ := hp
    refine ac_v ho ?_
    rw [show mkV std k n s x = .mk k n s (rdL x) from rfl] at hz ⊢
    generalize rdL x = l at hz ⊢
    have hz : szOk (N + 1) (.mk k n s l) := hz
    refine acalls_L' (T := tt) (S := fun L => sumOf [cf_s N L]) (lo := noA) (lb := noA) 5 (fn := Tryz.f52) (xs := fun L => [.agg [.int .i64 k, .int .u64 n, .str s, cvL L l]]) rfl rfl (by kernel_rfl) (by kernel_rfl) rfl tt_ok
      (sumOf_ok ⟨cf_of (if_of (b1_of ih)), trivial⟩) (by kernel_rfl) ?_
    intro L P' Q' hL hP hQ
    (cbv; try simp only [sat_need, sat_must, sat_ite, sat_done, sat_yes, sat_ex, sat_all, sat_sup, sat_and, sat_fail, true_and, and_true])
    (subst hL; subst hQ; simp only [L2, L3, std] at *; try simp only [sySet, syB, reduceCtorEq, forall_const, Int.reduceToNat, Int.reduceAdd, Int.reduceSub, Int.cast_ofNat_Int, Int.toNat_natCast, Nat.le_eq, Nat.sub_eq, ne_eq, implies_true, wadd, wsub, wmul, Nat.succ_eq_add_one] at *)
    simp only [rdl, lenL0]
    rw [sizeC_mk_ok] at hz
    rw [bareV]
    by_cases h1 : k = 1
    · simp [h1]
      exact ⟨fun a _ => a, fun a b => absurd b a⟩
    · by_cases h2 : k = 2
      · simp [h2]
        exact ⟨fun a _ => a, fun a b => absurd b a⟩
      · by_cases h3 : k = 3
        · simp [h3]
          refine ⟨fun h4 => ⟨fun h5 => ⟨⟨okl l, hz.1⟩, by simp [h4, h5]⟩, fun h5 => by simp [h5]⟩, fun h4 => by simp [h4]⟩
        · simp [h1, h2, h3]
end Sy
end Go.Proofs.YtcgikjfloloekaaGreatDoor
namespace Go.Proofs.YtcgikjfloloekaaGreatDoor
namespace Sy
open Go Go.RowKit
set_option maxRecDepth 100000
set_option linter.unusedSimpArgs false
set_option linter.unusedVariables false
end Sy
end Go.Proofs.YtcgikjfloloekaaGreatDoor
namespace Go.Proofs.YtcgikjfloloekaaGreatDoor
namespace Sy
open Go Go.RowKit
set_option maxRecDepth 100000
set_option linter.unusedSimpArgs false
set_option linter.unusedVariables false
theorem shortL_len : ∀ (k n : Nat), n < 128 ^ (k + 1) → (shortL n).length ≤ k + 1
  | 0, n, h => by rw [shortL_small (by omega)]; simp
  | k + 1, n, h => by
    by_cases h1 : n < 128
    · rw [shortL_small h1]; simp
    · rw [shortL_big (by omega), List.length_cons]
      have := shortL_len k (n / 128) (by rw [Nat.div_lt_iff_lt_mul (by omega)]; rw [Nat.pow_succ] at h; exact h)
      omega
theorem shortZ_len {n : Int} (h : shortOk n) : (shortZ n).length ≤ 10 := shortL_len 9 n.toNat (by
  have := h.2
  have := h.1
  rw [show (128 : Nat) ^ (9 + 1) = 1180591620717411303424 from by decide]
  omega)
mutual
def wfV : CV → Prop
  | .mk _ n s l => shortOk n ∧ s.length ≤ 9223372036854775807 ∧ wfLs l
def wfLs : List CV → Prop
  | [] => True
  | v :: l => wfV v ∧ wfLs l
end
theorem wf_nth : ∀ {l : List CV} {i : Nat}, wfLs l → i < l.length → wfV (nthV l i)
  | [], i, _, h => by simp at h
  | v :: l, 0, w, _ => by rw [wfLs] at w; exact w.1
  | v :: l, i + 1, w, h => by rw [wfLs] at w; exact wf_nth (l := l) w.2 (by simpa using h)
theorem textTo_len (l : List CV) : ∀ i, (textTo l i).length ≤ (textLs l).length := by
  intro i
  have := textLs_app (l.take i) (l.drop i)
  rw [List.take_append_drop] at this
  rw [this, List.length_append, textTo]; omega
theorem textV_mk (k n : Int) (s : List UInt8) (l : List CV) : textV (.mk k n s l) = byteK k ++ if k = 1 then shortZ n else if k = 2 then shortZ s.length ++ s else shortZ l.length ++ textLs l := by rw [textV]
def txOk (v : CV) : Prop := wfV v ∧ (textV v).length ≤ 90000000
theorem wf_mk {k n : Int} {s : List UInt8} {l : List CV} : txOk (.mk k n s l) = ((shortOk n ∧ s.length ≤ 9223372036854775807 ∧ wfLs l) ∧ (textV (.mk k n s l)).length ≤ 90000000) := by
  unfold txOk; rw [wfV]
theorem u64_small {x : Int} (h : 0 ≤ x) (h1 : x < 18446744073709551616) : x % 18446744073709551616 = x := Int.emod_eq_of_lt h h1
theorem u64_len {k n : Int} {s : List UInt8} {l : List CV} (h : wfV (.mk k n s l)) : (s.length : Int) % 18446744073709551616 = s.length := by
  rw [wfV] at h
  exact u64_small (by omega) (by omega)
theorem cvs_short {N : Nat} {k n : Int} {s : List UInt8} {l : List CV} (h : szOk (N + 1) (.mk k n s l)) : shortOk ((l.length : Nat) : Int) := by
  rw [sizeC_mk_ok] at h
  have := len_sz l
  have h1 := h.1.1
  have h2 := h.1.2
  exact ⟨by omega, by omega⟩
theorem u64_cvs {N : Nat} {k n : Int} {s : List UInt8} {l : List CV} (h : szOk (N + 1) (.mk k n s l)) : ((lenL l : Nat) : Int) % 18446744073709551616 = ((l.length : Nat) : Int) := by
  have := cvs_short h
  exact u64_small this.1 this.2
theorem tx_nth {k n : Int} {s : List UInt8} {l : List CV} (h : txOk (.mk k n s l)) (h1 : k ≠ 1) (h2 : k ≠ 2) {i : Nat} (hi : i < l.length) : txOk (nthV l i) := by
  rw [wf_mk] at h
  refine ⟨wf_nth h.1.2.2 hi, ?_⟩
  have h3 := h.2
  have h4 := textTo_succ hi
  have h5 := textTo_len l (i + 1)
  rw [h4, List.length_append] at h5
  rw [textV_mk, if_neg h1, if_neg h2] at h3
  simp only [List.length_append] at h3
  omega
def putX (b : List UInt8) (k : Int) (l : List CV) (i : Nat) : List UInt8 := b ++ byteK k ++ shortZ l.length ++ textTo l i
def putA (L : Seal) (b : List UInt8) (k : Int) (l : List CV) : Nat → St → Option Ann := fun id s => match id with
  | 1 => some ⟨Nat, fun i => [(23, .int .i64 (L natI i))], fun i => [(500000, .box 141 [.ref 500000 0, .sl 901 1 0 (L lenN (L (L3 L putX b k l) i))]), (901, .row 5 1 (L lenN (L (L3 L putX b k l) i)) (fun j _ => .int .u8 (L2 L byteAt (L (L3 L putX b k l) i) j)))], [0, 21, 22], [],
      fun i => L2 L (fun (l : List CV) i => i ≤ l.length) l i, fun i => L2 L (fun (l : List CV) (i : Nat) => l.length - i) l i⟩
  | _ => none
def put_m (N : Nat) (L : Seal) : EntM := (54, fun raw ob => match raw with
  | [.ref id 0, .agg [.int .i64 k, .int .u64 n, .str s, x]] => match bldOf L ob id with
    | some none => some ⟨[.ref 500000 0, .agg [.int .i64 k, .int .u64 n, .str s, x]], bld0, L okL x ∧ L2 L szOk N (mkV L k n s x) ∧ L txOk (mkV L k n s x), .tup [], bldN L (L textV (mkV L k n s x))⟩
    | some (some l) => some ⟨[.ref 500000 0, .agg [.int .i64 k, .int .u64 n, .str s, x]], bld L l, L okL x ∧ L2 L szOk N (mkV L k n s x) ∧ L txOk (mkV L k n s x) ∧ L2 L roomB l (L textV (mkV L k n s x)), .tup [], bldN L (L2 L bytesAdd l (L textV (mkV L k n s x)))⟩
    | none => none
  | _ => none)
theorem room_1 {b : List UInt8} {k n : Int} {s : List UInt8} {l : List CV} (h : roomB b (textV (.mk k n s l))) : roomB b (byte1 (k % 256)) := by
  rw [textV_mk] at h
  unfold roomB at h ⊢
  have : (byteK k).length = 1 := rfl
  have : (byte1 (k % 256)).length = 1 := rfl
  rw [List.length_append] at h
  omega
theorem room_3 {b q : List UInt8} {k : Int} (h : roomB b (byteK k ++ q)) : roomB (bytesAdd b (byte1 (k % 256))) q := by
  unfold roomB bytesAdd at *
  have : (byteK k).length = 1 := rfl
  have : (byte1 (k % 256)).length = 1 := rfl
  rw [List.length_append] at h ⊢
  omega
theorem room_4 {b q r : List UInt8} {k : Int} (h : roomB b (byteK k ++ (q ++ r))) : roomB (bytesAdd b (byte1 (k % 256))) q := by
  unfold roomB bytesAdd at *
  have : (byteK k).length = 1 := rfl
  have : (byte1 (k % 256)).length = 1 := rfl
  rw [List.length_append, List.length_append] at h
  rw [List.length_append]
  omega
theorem same_b {x y : List UInt8} (h : x = y) : (lenN x = lenN y ∧ ∀ i j : Nat, i < lenN y → j < 1 → AV.int .u8 (byteAt x i) = AV.int .u8 (byteAt y i)) ∧ lenN x = lenN y := by
  subst h; exact ⟨⟨rfl, fun _ _ _ _ => rfl⟩, rfl⟩
theorem same_3 {b q t : List UInt8} {k : Int} (h : t = byteK k ++ q) : (lenN (bytesAdd (bytesAdd b (byte1 (k % 256))) q) = lenN (bytesAdd b t) ∧ ∀ i j : Nat, i < lenN (bytesAdd b t) → j < 1 → AV.int .u8 (byteAt (bytesAdd (bytesAdd b (byte1 (k % 256))) q) i) = AV.int .u8 (byteAt (bytesAdd b t) i)) ∧ lenN (bytesAdd (bytesAdd b (byte1 (k % 256))) q) = lenN (bytesAdd b t) :=
  same_b (by rw [h]; unfold bytesAdd; rw [List.append_assoc]; rfl)
theorem same_0 {q t : List UInt8} {k : Int} (h : t = byteK k ++ q) : (lenN (bytesAdd (byte1 (k % 256)) q) = lenN t ∧ ∀ i j : Nat, i < lenN t → j < 1 → AV.int .u8 (byteAt (bytesAdd (byte1 (k % 256)) q) i) = AV.int .u8 (byteAt t i)) ∧ lenN (bytesAdd (byte1 (k % 256)) q) = lenN t :=
  same_b (by rw [h]; rfl)
theorem put_old {N : Nat} (ih : GoodM Tryz.prog (put_m N std)) (b : List UInt8) (k n : Int) (s : List UInt8) (l : List CV) (hz : szOk (N + 1) (.mk k n s l)) (hw : txOk (.mk k n s l)) (hb : roomB b (textV (.mk k n s l))) :
    MCalls Tryz.prog 54 [.ref 500000 0, .agg [.int .i64 k, .int .u64 n, .str s, cvL std l]] (bld std b) (.tup []) (bldN std (bytesAdd b (textV (.mk k n s l)))) := by
  refine mcalls_L (T := tt) (S := fun L => sumOfM [short_s L] [wb_m L, ws_m L, put_m N L]) (lo := fun L => putA L b k l) (lb := noA) 5 (fn := Tryz.f54) (xs := fun L => [.ref 500000 0, .agg [.int .i64 k, .int .u64 n, .str s, cvL L l]]) (rts := fun _ => []) (O := fun L => bld L b) (O1 := fun L => bldN L (L2 L bytesAdd b (L textV (.mk k n s l))))
    rfl rfl (by kernel_rfl) (by kernel_rfl) (by kernel_rfl) tt_ok (sumOfM_ok ⟨short_good, trivial⟩ ⟨wb_good, ws_good, ih, trivial⟩) (by kernel_rfl) ?_
  intro L P' Q' hL hP hQ
  have hB : ∀ b : List UInt8, L (L bytesOf (L lenN b)) (fun i => (AV.int .u8 (L2 L byteAt b i)).toI) = b := by subst hL; exact bytesOf_at
  (cbv; try simp only [sat_need, sat_must, sat_ite, sat_done, sat_yes, sat_ex, sat_all, sat_sup, sat_and, sat_fail, true_and, and_true])
  simp only [hB]
  refine ⟨⟨trivial, fun _ _ _ _ => trivial⟩, trivial, ⟨?_, ?_⟩, fun h1 => ⟨?_, ⟨trivial, fun _ _ _ _ => trivial⟩, trivial, ?_, ?_⟩, fun h1 => ⟨fun h2 => ⟨?_, ?_, ⟨trivial, fun _ _ _ _ => trivial⟩, trivial, ?_, ?_⟩, fun h2 => ⟨?_, ⟨trivial, fun _ _ _ _ => trivial⟩, trivial, ?_, ⟨0, ?_⟩, fun i hi => ?_⟩⟩⟩
  · (subst hL; subst hQ; simp only [L2, L3, std] at *; try simp only [sySet, syB, reduceCtorEq, forall_const, Int.reduceToNat, Int.reduceAdd, Int.reduceSub, Int.cast_ofNat_Int, Int.toNat_natCast, Nat.le_eq, Nat.sub_eq, ne_eq, implies_true, wadd, wsub, wmul, Nat.succ_eq_add_one] at *)
    exact ⟨Int.emod_nonneg _ (by omega), Int.emod_lt_of_pos _ (by omega)⟩
  · (subst hL; subst hQ; simp only [L2, L3, std] at *; try simp only [sySet, syB, reduceCtorEq, forall_const, Int.reduceToNat, Int.reduceAdd, Int.reduceSub, Int.cast_ofNat_Int, Int.toNat_natCast, Nat.le_eq, Nat.sub_eq, ne_eq, implies_true, wadd, wsub, wmul, Nat.succ_eq_add_one] at *)
    exact room_1 hb
  · (subst hL; subst hQ; simp only [L2, L3, std] at *; try simp only [sySet, syB, reduceCtorEq, forall_const, Int.reduceToNat, Int.reduceAdd, Int.reduceSub, Int.cast_ofNat_Int, Int.toNat_natCast, Nat.le_eq, Nat.sub_eq, ne_eq, implies_true, wadd, wsub, wmul, Nat.succ_eq_add_one] at *)
    rw [wf_mk] at hw
    exact hw.1.1
  · (subst hL; subst hQ; simp only [L2, L3, std] at *; try simp only [sySet, syB, reduceCtorEq, forall_const, Int.reduceToNat, Int.reduceAdd, Int.reduceSub, Int.cast_ofNat_Int, Int.toNat_natCast, Nat.le_eq, Nat.sub_eq, ne_eq, implies_true, wadd, wsub, wmul, Nat.succ_eq_add_one] at *)
    rw [textV_mk, if_pos h1] at hb
    exact room_3 hb
  · (subst hL; subst hQ; simp only [L2, L3, std] at *; try simp only [sySet, syB, reduceCtorEq, forall_const, Int.reduceToNat, Int.reduceAdd, Int.reduceSub, Int.cast_ofNat_Int, Int.toNat_natCast, Nat.le_eq, Nat.sub_eq, ne_eq, implies_true, wadd, wsub, wmul, Nat.succ_eq_add_one] at *)
    exact same_3 (by rw [textV_mk, if_pos h1])
  · (subst hL; subst hQ; simp only [L2, L3, std] at *; try simp only [sySet, syB, reduceCtorEq, forall_const, Int.reduceToNat, Int.reduceAdd, Int.reduceSub, Int.cast_ofNat_Int, Int.toNat_natCast, Nat.le_eq, Nat.sub_eq, ne_eq, implies_true, wadd, wsub, wmul, Nat.succ_eq_add_one] at *)
    rw [wf_mk] at hw
    rw [u64_small (by omega) (by omega)]
    exact ⟨by omega, by omega⟩
  · (subst hL; subst hQ; simp only [L2, L3, std] at *; try simp only [sySet, syB, reduceCtorEq, forall_const, Int.reduceToNat, Int.reduceAdd, Int.reduceSub, Int.cast_ofNat_Int, Int.toNat_natCast, Nat.le_eq, Nat.sub_eq, ne_eq, implies_true, wadd, wsub, wmul, Nat.succ_eq_add_one] at *)
    rw [u64_len hw.1]
    have h3 := hw.2
    rw [textV_mk, if_neg h1, if_pos h2] at h3
    simp at h3 ⊢
    omega
  · (subst hL; subst hQ; simp only [L2, L3, std] at *; try simp only [sySet, syB, reduceCtorEq, forall_const, Int.reduceToNat, Int.reduceAdd, Int.reduceSub, Int.cast_ofNat_Int, Int.toNat_natCast, Nat.le_eq, Nat.sub_eq, ne_eq, implies_true, wadd, wsub, wmul, Nat.succ_eq_add_one] at *)
    rw [u64_len hw.1]
    rw [textV_mk, if_neg h1, if_pos h2] at hb
    exact room_3 hb
  · (subst hL; subst hQ; simp only [L2, L3, std] at *; try simp only [sySet, syB, reduceCtorEq, forall_const, Int.reduceToNat, Int.reduceAdd, Int.reduceSub, Int.cast_ofNat_Int, Int.toNat_natCast, Nat.le_eq, Nat.sub_eq, ne_eq, implies_true, wadd, wsub, wmul, Nat.succ_eq_add_one] at *)
    rw [u64_len hw.1]
    exact same_3 (by rw [textV_mk, if_neg h1, if_pos h2])
  · (subst hL; subst hQ; simp only [L2, L3, std] at *; try simp only [sySet, syB, reduceCtorEq, forall_const, Int.reduceToNat, Int.reduceAdd, Int.reduceSub, Int.cast_ofNat_Int, Int.toNat_natCast, Nat.le_eq, Nat.sub_eq, ne_eq, implies_true, wadd, wsub, wmul, Nat.succ_eq_add_one] at *)
    rw [u64_cvs hz]
    exact cvs_short hz
  · (subst hL; subst hQ; simp only [L2, L3, std] at *; try simp only [sySet, syB, reduceCtorEq, forall_const, Int.reduceToNat, Int.reduceAdd, Int.reduceSub, Int.cast_ofNat_Int, Int.toNat_natCast, Nat.le_eq, Nat.sub_eq, ne_eq, implies_true, wadd, wsub, wmul, Nat.succ_eq_add_one] at *)
    rw [u64_cvs hz]
    rw [textV_mk, if_neg h1, if_neg h2] at hb
    exact room_4 hb
  · (cbv; try simp only [sat_need, sat_must, sat_ite, sat_done, sat_yes, sat_ex, sat_all, sat_sup, sat_and, sat_fail, true_and, and_true])
    (subst hL; subst hQ; simp only [L2, L3, std] at *; try simp only [sySet, syB, reduceCtorEq, forall_const, Int.reduceToNat, Int.reduceAdd, Int.reduceSub, Int.cast_ofNat_Int, Int.toNat_natCast, Nat.le_eq, Nat.sub_eq, ne_eq, implies_true, wadd, wsub, wmul, Nat.succ_eq_add_one] at *)
    rw [u64_cvs hz]
    have e : bytesAdd (bytesAdd b (byte1 (k % 256))) (shortZ ((l.length : Nat) : Int)) = putX b k l 0 := by
      rw [putX, textTo, List.take_zero, textLs, List.append_nil]; rfl
    rw [e]
    exact ⟨⟨rfl, fun _ _ _ _ => rfl⟩, rfl, Nat.zero_le _⟩
  · cbv at hi
    (cbv; try simp only [sat_need, sat_must, sat_ite, sat_done, sat_yes, sat_ex, sat_all, sat_sup, sat_and, sat_fail, true_and, and_true])
    simp only [hB]
    refine ⟨fun hlt => ⟨?_, ⟨trivial, fun _ _ _ _ => trivial⟩, trivial, fun _ _ _ _ => trivial, ⟨?_, ?_, ?_, ?_⟩, ⟨i + 1, ?_⟩⟩, fun hge => ?_⟩
    · (subst hL; subst hQ; simp only [L2, L3, std] at *; try simp only [sySet, syB, reduceCtorEq, forall_const, Int.reduceToNat, Int.reduceAdd, Int.reduceSub, Int.cast_ofNat_Int, Int.toNat_natCast, Nat.le_eq, Nat.sub_eq, ne_eq, implies_true, wadd, wsub, wmul, Nat.succ_eq_add_one] at *)
      omega
    · (subst hL; subst hQ; simp only [L2, L3, std] at *; try simp only [sySet, syB, reduceCtorEq, forall_const, Int.reduceToNat, Int.reduceAdd, Int.reduceSub, Int.cast_ofNat_Int, Int.toNat_natCast, Nat.le_eq, Nat.sub_eq, ne_eq, implies_true, wadd, wsub, wmul, Nat.succ_eq_add_one] at *)
      exact (rd_in _).2
    · (subst hL; subst hQ; simp only [L2, L3, std] at *; try simp only [sySet, syB, reduceCtorEq, forall_const, Int.reduceToNat, Int.reduceAdd, Int.reduceSub, Int.cast_ofNat_Int, Int.toNat_natCast, Nat.le_eq, Nat.sub_eq, ne_eq, implies_true, wadd, wsub, wmul, Nat.succ_eq_add_one] at *)
      rw [mk_parts]
      rw [sizeC_mk_ok] at hz
      exact nth_sz hz.1 (by have : lenL l = l.length := rfl; omega)
    · (subst hL; subst hQ; simp only [L2, L3, std] at *; try simp only [sySet, syB, reduceCtorEq, forall_const, Int.reduceToNat, Int.reduceAdd, Int.reduceSub, Int.cast_ofNat_Int, Int.toNat_natCast, Nat.le_eq, Nat.sub_eq, ne_eq, implies_true, wadd, wsub, wmul, Nat.succ_eq_add_one] at *)
      rw [mkV_parts]
      exact tx_nth hw (by omega) (by omega) (by have : lenL l = l.length := rfl; omega)
    · (subst hL; subst hQ; simp only [L2, L3, std] at *; try simp only [sySet, syB, reduceCtorEq, forall_const, Int.reduceToNat, Int.reduceAdd, Int.reduceSub, Int.cast_ofNat_Int, Int.toNat_natCast, Nat.le_eq, Nat.sub_eq, ne_eq, implies_true, wadd, wsub, wmul, Nat.succ_eq_add_one] at *)
      rw [mkV_parts]
      have h4 := textTo_succ (l := l) (i := i) (by have : lenL l = l.length := rfl; omega)
      have h5 := textTo_len l (i + 1)
      rw [h4, List.length_append] at h5
      rw [textV_mk, if_neg h1, if_neg h2] at hb
      unfold roomB at hb ⊢
      simp only [List.length_append, putX] at hb ⊢
      omega
    · (cbv; try simp only [sat_need, sat_must, sat_ite, sat_done, sat_yes, sat_ex, sat_all, sat_sup, sat_and, sat_fail, true_and, and_true])
      (subst hL; subst hQ; simp only [L2, L3, std] at *; try simp only [sySet, syB, reduceCtorEq, forall_const, Int.reduceToNat, Int.reduceAdd, Int.reduceSub, Int.cast_ofNat_Int, Int.toNat_natCast, Nat.le_eq, Nat.sub_eq, ne_eq, implies_true, wadd, wsub, wmul, Nat.succ_eq_add_one] at *)
      have : lenL l = l.length := rfl
      have := len_sz l
      rw [sizeC_mk_ok] at hz
      have h4 := hz.1.1
      have h5 := hz.1.2
      rw [mkV_parts]
      have e : bytesAdd (putX b k l i) (textV (nthV l i)) = putX b k l (i + 1) := by
        rw [putX, putX, textTo_succ (by omega)]; unfold bytesAdd; simp only [List.append_assoc]
      rw [e]
      exact ⟨⟨rfl, fun _ _ _ _ => rfl⟩, rfl, by omega, by omega, by omega⟩
    · (subst hL; subst hQ; simp only [L2, L3, std] at *; try simp only [sySet, syB, reduceCtorEq, forall_const, Int.reduceToNat, Int.reduceAdd, Int.reduceSub, Int.cast_ofNat_Int, Int.toNat_natCast, Nat.le_eq, Nat.sub_eq, ne_eq, implies_true, wadd, wsub, wmul, Nat.succ_eq_add_one] at *)
      have : lenL l = l.length := rfl
      have hil : i = l.length := by omega
      exact same_b (by rw [textV_mk, if_neg h1, if_neg h2, putX, hil, textTo, List.take_length]; unfold bytesAdd; simp only [List.append_assoc])
theorem put_new {N : Nat} (ih : GoodM Tryz.prog (put_m N std)) (k n : Int) (s : List UInt8) (l : List CV) (hz : szOk (N + 1) (.mk k n s l)) (hw : txOk (.mk k n s l)) :
    MCalls Tryz.prog 54 [.ref 500000 0, .agg [.int .i64 k, .int .u64 n, .str s, cvL std l]] bld0 (.tup []) (bldN std (textV (.mk k n s l))) := by
  refine mcalls_L (T := tt) (S := fun L => sumOfM [short_s L] [wb_m L, ws_m L, put_m N L]) (lo := fun L => putA L [] k l) (lb := noA) 5 (fn := Tryz.f54) (xs := fun L => [.ref 500000 0, .agg [.int .i64 k, .int .u64 n, .str s, cvL L l]]) (rts := fun _ => []) (O := fun L => bld0) (O1 := fun L => bldN L (L textV (.mk k n s l)))
    rfl rfl (by kernel_rfl) (by kernel_rfl) (by kernel_rfl) tt_ok (sumOfM_ok ⟨short_good, trivial⟩ ⟨wb_good, ws_good, ih, trivial⟩) (by kernel_rfl) ?_
  intro L P' Q' hL hP hQ
  have hb : roomB [] (textV (.mk k n s l)) := by have := hw.2; unfold roomB; simp; omega
  have hB : ∀ b : List UInt8, L (L bytesOf (L lenN b)) (fun i => (AV.int .u8 (L2 L byteAt b i)).toI) = b := by subst hL; exact bytesOf_at
  (cbv; try simp only [sat_need, sat_must, sat_ite, sat_done, sat_yes, sat_ex, sat_all, sat_sup, sat_and, sat_fail, true_and, and_true])
  simp only [hB]
  refine ⟨?_, fun h1 => ⟨?_, ⟨trivial, fun _ _ _ _ => trivial⟩, trivial, ?_, ?_⟩, fun h1 => ⟨fun h2 => ⟨?_, ?_, ⟨trivial, fun _ _ _ _ => trivial⟩, trivial, ?_, ?_⟩, fun h2 => ⟨?_, ⟨trivial, fun _ _ _ _ => trivial⟩, trivial, ?_, ⟨0, ?_⟩, fun i hi => ?_⟩⟩⟩
  · (subst hL; subst hQ; simp only [L2, L3, std] at *; try simp only [sySet, syB, reduceCtorEq, forall_const, Int.reduceToNat, Int.reduceAdd, Int.reduceSub, Int.cast_ofNat_Int, Int.toNat_natCast, Nat.le_eq, Nat.sub_eq, ne_eq, implies_true, wadd, wsub, wmul, Nat.succ_eq_add_one] at *)
    exact ⟨Int.emod_nonneg _ (by omega), Int.emod_lt_of_pos _ (by omega)⟩
  · (subst hL; subst hQ; simp only [L2, L3, std] at *; try simp only [sySet, syB, reduceCtorEq, forall_const, Int.reduceToNat, Int.reduceAdd, Int.reduceSub, Int.cast_ofNat_Int, Int.toNat_natCast, Nat.le_eq, Nat.sub_eq, ne_eq, implies_true, wadd, wsub, wmul, Nat.succ_eq_add_one] at *)
    rw [wf_mk] at hw
    exact hw.1.1
  · (subst hL; subst hQ; simp only [L2, L3, std] at *; try simp only [sySet, syB, reduceCtorEq, forall_const, Int.reduceToNat, Int.reduceAdd, Int.reduceSub, Int.cast_ofNat_Int, Int.toNat_natCast, Nat.le_eq, Nat.sub_eq, ne_eq, implies_true, wadd, wsub, wmul, Nat.succ_eq_add_one] at *)
    rw [textV_mk, if_pos h1] at hb
    exact room_3 hb
  · (subst hL; subst hQ; simp only [L2, L3, std] at *; try simp only [sySet, syB, reduceCtorEq, forall_const, Int.reduceToNat, Int.reduceAdd, Int.reduceSub, Int.cast_ofNat_Int, Int.toNat_natCast, Nat.le_eq, Nat.sub_eq, ne_eq, implies_true, wadd, wsub, wmul, Nat.succ_eq_add_one] at *)
    exact same_0 (by rw [textV_mk, if_pos h1])
  · (subst hL; subst hQ; simp only [L2, L3, std] at *; try simp only [sySet, syB, reduceCtorEq, forall_const, Int.reduceToNat, Int.reduceAdd, Int.reduceSub, Int.cast_ofNat_Int, Int.toNat_natCast, Nat.le_eq, Nat.sub_eq, ne_eq, implies_true, wadd, wsub, wmul, Nat.succ_eq_add_one] at *)
    rw [wf_mk] at hw
    rw [u64_small (by omega) (by omega)]
    exact ⟨by omega, by omega⟩
  · (subst hL; subst hQ; simp only [L2, L3, std] at *; try simp only [sySet, syB, reduceCtorEq, forall_const, Int.reduceToNat, Int.reduceAdd, Int.reduceSub, Int.cast_ofNat_Int, Int.toNat_natCast, Nat.le_eq, Nat.sub_eq, ne_eq, implies_true, wadd, wsub, wmul, Nat.succ_eq_add_one] at *)
    rw [u64_len hw.1]
    have h3 := hw.2
    rw [textV_mk, if_neg h1, if_pos h2] at h3
    simp at h3 ⊢
    omega
  · (subst hL; subst hQ; simp only [L2, L3, std] at *; try simp only [sySet, syB, reduceCtorEq, forall_const, Int.reduceToNat, Int.reduceAdd, Int.reduceSub, Int.cast_ofNat_Int, Int.toNat_natCast, Nat.le_eq, Nat.sub_eq, ne_eq, implies_true, wadd, wsub, wmul, Nat.succ_eq_add_one] at *)
    rw [u64_len hw.1]
    rw [textV_mk, if_neg h1, if_pos h2] at hb
    exact room_3 hb
  · (subst hL; subst hQ; simp only [L2, L3, std] at *; try simp only [sySet, syB, reduceCtorEq, forall_const, Int.reduceToNat, Int.reduceAdd, Int.reduceSub, Int.cast_ofNat_Int, Int.toNat_natCast, Nat.le_eq, Nat.sub_eq, ne_eq, implies_true, wadd, wsub, wmul, Nat.succ_eq_add_one] at *)
    rw [u64_len hw.1]
    exact same_0 (by rw [textV_mk, if_neg h1, if_pos h2])
  · (subst hL; subst hQ; simp only [L2, L3, std] at *; try simp only [sySet, syB, reduceCtorEq, forall_const, Int.reduceToNat, Int.reduceAdd, Int.reduceSub, Int.cast_ofNat_Int, Int.toNat_natCast, Nat.le_eq, Nat.sub_eq, ne_eq, implies_true, wadd, wsub, wmul, Nat.succ_eq_add_one] at *)
    rw [u64_cvs hz]
    exact cvs_short hz
  · (subst hL; subst hQ; simp only [L2, L3, std] at *; try simp only [sySet, syB, reduceCtorEq, forall_const, Int.reduceToNat, Int.reduceAdd, Int.reduceSub, Int.cast_ofNat_Int, Int.toNat_natCast, Nat.le_eq, Nat.sub_eq, ne_eq, implies_true, wadd, wsub, wmul, Nat.succ_eq_add_one] at *)
    rw [u64_cvs hz]
    rw [textV_mk, if_neg h1, if_neg h2] at hb
    exact room_4 hb
  · (cbv; try simp only [sat_need, sat_must, sat_ite, sat_done, sat_yes, sat_ex, sat_all, sat_sup, sat_and, sat_fail, true_and, and_true])
    (subst hL; subst hQ; simp only [L2, L3, std] at *; try simp only [sySet, syB, reduceCtorEq, forall_const, Int.reduceToNat, Int.reduceAdd, Int.reduceSub, Int.cast_ofNat_Int, Int.toNat_natCast, Nat.le_eq, Nat.sub_eq, ne_eq, implies_true, wadd, wsub, wmul, Nat.succ_eq_add_one] at *)
    rw [u64_cvs hz]
    have e : bytesAdd (byte1 (k % 256)) (shortZ ((l.length : Nat) : Int)) = putX [] k l 0 := by
      rw [putX, textTo, List.take_zero, textLs, List.append_nil]; rfl
    rw [e]
    exact ⟨⟨rfl, fun _ _ _ _ => rfl⟩, rfl, Nat.zero_le _⟩
  · cbv at hi
    (cbv; try simp only [sat_need, sat_must, sat_ite, sat_done, sat_yes, sat_ex, sat_all, sat_sup, sat_and, sat_fail, true_and, and_true])
    simp only [hB]
    refine ⟨fun hlt => ⟨?_, ⟨trivial, fun _ _ _ _ => trivial⟩, trivial, fun _ _ _ _ => trivial, ⟨?_, ?_, ?_, ?_⟩, ⟨i + 1, ?_⟩⟩, fun hge => ?_⟩
    · (subst hL; subst hQ; simp only [L2, L3, std] at *; try simp only [sySet, syB, reduceCtorEq, forall_const, Int.reduceToNat, Int.reduceAdd, Int.reduceSub, Int.cast_ofNat_Int, Int.toNat_natCast, Nat.le_eq, Nat.sub_eq, ne_eq, implies_true, wadd, wsub, wmul, Nat.succ_eq_add_one] at *)
      omega
    · (subst hL; subst hQ; simp only [L2, L3, std] at *; try simp only [sySet, syB, reduceCtorEq, forall_const, Int.reduceToNat, Int.reduceAdd, Int.reduceSub, Int.cast_ofNat_Int, Int.toNat_natCast, Nat.le_eq, Nat.sub_eq, ne_eq, implies_true, wadd, wsub, wmul, Nat.succ_eq_add_one] at *)
      exact (rd_in _).2
    · (subst hL; subst hQ; simp only [L2, L3, std] at *; try simp only [sySet, syB, reduceCtorEq, forall_const, Int.reduceToNat, Int.reduceAdd, Int.reduceSub, Int.cast_ofNat_Int, Int.toNat_natCast, Nat.le_eq, Nat.sub_eq, ne_eq, implies_true, wadd, wsub, wmul, Nat.succ_eq_add_one] at *)
      rw [mk_parts]
      rw [sizeC_mk_ok] at hz
      exact nth_sz hz.1 (by have : lenL l = l.length := rfl; omega)
    · (subst hL; subst hQ; simp only [L2, L3, std] at *; try simp only [sySet, syB, reduceCtorEq, forall_const, Int.reduceToNat, Int.reduceAdd, Int.reduceSub, Int.cast_ofNat_Int, Int.toNat_natCast, Nat.le_eq, Nat.sub_eq, ne_eq, implies_true, wadd, wsub, wmul, Nat.succ_eq_add_one] at *)
      rw [mkV_parts]
      exact tx_nth hw (by omega) (by omega) (by have : lenL l = l.length := rfl; omega)
    · (subst hL; subst hQ; simp only [L2, L3, std] at *; try simp only [sySet, syB, reduceCtorEq, forall_const, Int.reduceToNat, Int.reduceAdd, Int.reduceSub, Int.cast_ofNat_Int, Int.toNat_natCast, Nat.le_eq, Nat.sub_eq, ne_eq, implies_true, wadd, wsub, wmul, Nat.succ_eq_add_one] at *)
      rw [mkV_parts]
      have h4 := textTo_succ (l := l) (i := i) (by have : lenL l = l.length := rfl; omega)
      have h5 := textTo_len l (i + 1)
      rw [h4, List.length_append] at h5
      rw [textV_mk, if_neg h1, if_neg h2] at hb
      unfold roomB at hb ⊢
      simp only [List.length_append, putX] at hb ⊢
      omega
    · (cbv; try simp only [sat_need, sat_must, sat_ite, sat_done, sat_yes, sat_ex, sat_all, sat_sup, sat_and, sat_fail, true_and, and_true])
      (subst hL; subst hQ; simp only [L2, L3, std] at *; try simp only [sySet, syB, reduceCtorEq, forall_const, Int.reduceToNat, Int.reduceAdd, Int.reduceSub, Int.cast_ofNat_Int, Int.toNat_natCast, Nat.le_eq, Nat.sub_eq, ne_eq, implies_true, wadd, wsub, wmul, Nat.succ_eq_add_one] at *)
      have : lenL l = l.length := rfl
      have := len_sz l
      rw [sizeC_mk_ok] at hz
      have h4 := hz.1.1
      have h5 := hz.1.2
      rw [mkV_parts]
      have e : bytesAdd (putX [] k l i) (textV (nthV l i)) = putX [] k l (i + 1) := by
        rw [putX, putX, textTo_succ (by omega)]; unfold bytesAdd; simp only [List.append_assoc]
      rw [e]
      exact ⟨⟨rfl, fun _ _ _ _ => rfl⟩, rfl, by omega, by omega, by omega⟩
    · (subst hL; subst hQ; simp only [L2, L3, std] at *; try simp only [sySet, syB, reduceCtorEq, forall_const, Int.reduceToNat, Int.reduceAdd, Int.reduceSub, Int.cast_ofNat_Int, Int.toNat_natCast, Nat.le_eq, Nat.sub_eq, ne_eq, implies_true, wadd, wsub, wmul, Nat.succ_eq_add_one] at *)
      have : lenL l = l.length := rfl
      have hil : i = l.length := by omega
      exact same_b (by rw [textV_mk, if_neg h1, if_neg h2, putX, hil, textTo, List.take_length, List.nil_append, List.append_assoc])
theorem mc_args {P : Program} {f : FuncId} {xs ys : List AV} {O O1 : List (Nat × Ob)} {r : AV} (e : ∀ h D μ vs, RL h D μ xs vs → RL h D μ ys vs) (hm : MCalls P f ys O r O1) : MCalls P f xs O r O1 :=
  fun D w μ vs hD hx => hm D w μ vs hD (e _ _ _ _ hx)
theorem cput_good : ∀ N, GoodM Tryz.prog (put_m N std) := by
  intro N
  induction N with
  | zero =>
    intro raw ob T hT hp
    unfold put_m at hT
    simp only at hT
    split at hT
    · rename_i k n s x
      split at hT <;> cases hT
      · have h1 : sizeC (mkV std k n s x) ≤ 0 := hp.2.1.1
        have := sizeC_pos (mkV std k n s x)
        omega
      · have h1 : sizeC (mkV std k n s x) ≤ 0 := hp.2.1.1
        have := sizeC_pos (mkV std k n s x)
        omega
    · cases hT
  | succ N ih =>
    intro raw ob T hT hp
    unfold put_m at hT
    simp only at hT
    split at hT
    rotate_left
    · cases hT
    rename_i k n s x
    split at hT <;> cases hT
    · refine mc_args (fun h D μ vs hr => rl_2 (fun v => val_R hp.1) hr) ?_
      exact put_new ih k n s (rdL x) hp.2.1 hp.2.2
    · refine mc_args (fun h D μ vs hr => rl_2 (fun v => val_R hp.1) hr) ?_
      exact put_old ih _ k n s (rdL x) hp.2.1 hp.2.2.1 hp.2.2.2
end Sy
end Go.Proofs.YtcgikjfloloekaaGreatDoor
namespace Go.Proofs.YtcgikjfloloekaaGreatDoor
namespace Sy
open Go Go.RowKit
set_option maxRecDepth 100000
set_option linter.unusedSimpArgs false
set_option linter.unusedVariables false
theorem ac_nilsplit {P : Program} {f : FuncId} {sz n : Nat} {get : Nat → Nat → AV} {r : AV} (h0 : n = 0 → ACalls P f [.nils] r) (h1 : n = 0 → ACalls P f [.emp] r) (h2 : 0 < n → ACalls P f [.lst sz n get] r) : ACalls P f [.lst sz n get] r := by
  by_cases e : n = 0
  · subst e
    intro D w vs hD hx
    obtain ⟨v, hv⟩ : ∃ v, vs.toList = [v] := List.length_eq_one_iff.1 (by simpa using hx.1.symm)
    have : vs = #[v] := by rw [← Array.toArray_toList (xs := vs), hv]
    subst this
    have hr := hx.2 0 _ _ rfl rfl
    have one : ∀ y, R w.heap D noMu y v → RL w.heap D noMu [y] #[v] := fun y r => ⟨rfl, fun i x u hx hu => by
      match i with
      | 0 => cases hx; cases hu; exact r
      | i + 1 => simp at hx⟩
    cases hr with
    | lst0 _ _ a cap hn =>
      cases a with
      | none =>
        obtain rfl := hn rfl
        exact h0 rfl D w _ hD (one _ .nils)
      | some a => exact h1 rfl D w _ hD (one _ (.emp a cap))
    | lst _ _ _ b o cap vs' hD' hc hv' h1' hr' => exact h1 rfl D w _ hD (one _ (.emp _ cap))
  · exact h2 (by omega)
def numV (n : Int) : CV := .mk 1 n [] []
def txtV (s : List UInt8) : CV := .mk 2 0 s []
def rowV (l : List CV) : CV := .mk 3 0 [] l
def num_s (L : Seal) : Ent1 := (31, fun xs => match xs with | [.int .u64 n] => some (True, cvA L (L numV n)) | _ => none)
def txt_s (L : Seal) : Ent1 := (32, fun xs => match xs with | [.str s] => some (True, cvA L (L txtV s)) | _ => none)
theorem num_good : Good Tryz.prog (num_s std) := by
  intro xs p r h hp
  unfold num_s at h
  simp only at h
  split at h
  rotate_left
  · cases h
  rename_i n
  cases h
  refine acalls_L (T := tt) (S := noS) (lo := noA) (lb := noA) 5 (fn := Tryz.f31) rfl rfl (by kernel_rfl) (by kernel_rfl) rfl tt_ok (noS_ok _) (by kernel_rfl) ?_
  (intro L P1 Q1 hL hP hQ; cbv; subst hL; simp only [L2, L3, std, sat_need, sat_must, sat_ite, sat_done, sat_yes, sat_ex, sat_all, sat_sup, sat_and, sat_fail]; subst hQ)
  show fits (.agg [.int .i64 1, .int .u64 n, .str [], .lst 4 0 (cvIn (numV n))]) _
  simp [fits_aggi, fits1_aggi, fits1_aggs, fits1_aggn, fits1_agg0]
theorem txt_good : Good Tryz.prog (txt_s std) := by
  intro xs p r h hp
  unfold txt_s at h
  simp only at h
  split at h
  rotate_left
  · cases h
  rename_i n
  cases h
  refine acalls_L (T := tt) (S := noS) (lo := noA) (lb := noA) 5 (fn := Tryz.f32) rfl rfl (by kernel_rfl) (by kernel_rfl) rfl tt_ok (noS_ok _) (by kernel_rfl) ?_
  (intro L P1 Q1 hL hP hQ; cbv; subst hL; simp only [L2, L3, std, sat_need, sat_must, sat_ite, sat_done, sat_yes, sat_ex, sat_all, sat_sup, sat_and, sat_fail]; subst hQ)
  show fits (.agg [.int .i64 2, .int .u64 0, .str n, .lst 4 0 (cvIn (txtV n))]) _
  simp [fits_aggi, fits1_aggi, fits1_aggs, fits1_aggn, fits1_agg0]
def lenOk (l : List CV) : Prop := l.length ≤ 1000000
def clone_s (L : Seal) : Ent1 := (57, fun xs => match xs with
  | [x] => some (L okL x ∧ L lenOk (L rdL x), .lst 4 (L lenL (L rdL x)) (L cvGet (L rdL x)))
  | _ => none)
theorem clone_good : Good Tryz.prog (clone_s std) := by
  intro xs p r h hp
  unfold clone_s at h
  simp only at h
  split at h
  rotate_left
  · cases h
  rename_i x
  cases h
  obtain ⟨ho, hz⟩ := hp
  refine ac_l ho ?_
  have hz : lenOk (rdL x) := hz
  show ACalls _ _ [cvL std (rdL x)] (.lst 4 (lenL (rdL x)) (cvGet (rdL x)))
  generalize rdL x = l at hz ⊢
  refine ac_nilsplit (fun h => ?_) (fun h => ?_) (fun h => ?_)
  · refine acalls_L (T := tt) (S := noS) (lo := noA) (lb := noA) 5 (fn := Tryz.f57) rfl rfl (by kernel_rfl) (by kernel_rfl) rfl tt_ok (noS_ok _) (by kernel_rfl) ?_
    intro L P' Q' hL hP hQ
    (cbv; try simp only [sat_need, sat_must, sat_ite, sat_done, sat_yes, sat_ex, sat_all, sat_sup, sat_and, sat_fail, true_and, and_true])
    (subst hL; subst hQ; simp only [L2, L3, std] at *; try simp only [sySet, syB, reduceCtorEq, forall_const, Int.reduceToNat, Int.reduceAdd, Int.reduceSub, Int.cast_ofNat_Int, Int.toNat_natCast, Nat.le_eq, Nat.sub_eq, ne_eq, implies_true, wadd, wsub, wmul, Nat.succ_eq_add_one] at *)
    exact h.symm
  · refine acalls_L (T := tt) (S := noS) (lo := noA) (lb := noA) 5 (fn := Tryz.f57) rfl rfl (by kernel_rfl) (by kernel_rfl) rfl tt_ok (noS_ok _) (by kernel_rfl) ?_
    intro L P' Q' hL hP hQ
    (cbv; try simp only [sat_need, sat_must, sat_ite, sat_done, sat_yes, sat_ex, sat_all, sat_sup, sat_and, sat_fail, true_and, and_true])
    (subst hL; subst hQ; simp only [L2, L3, std] at *; try simp only [sySet, syB, reduceCtorEq, forall_const, Int.reduceToNat, Int.reduceAdd, Int.reduceSub, Int.cast_ofNat_Int, Int.toNat_natCast, Nat.le_eq, Nat.sub_eq, ne_eq, implies_true, wadd, wsub, wmul, Nat.succ_eq_add_one] at *)
    exact ⟨by omega, h.symm, fun i j hi => by omega⟩
  · refine acalls_L' (T := tt) (S := noS) (lo := fun _ => noA std) (lb := noA) 5 (fn := Tryz.f57) (xs := fun L => [cvL L l]) rfl rfl (by kernel_rfl) (by kernel_rfl) rfl tt_ok (noS_ok _) (by kernel_rfl) ?_
    intro L P' Q' hL hP hQ
    (cbv; try simp only [sat_need, sat_must, sat_ite, sat_done, sat_yes, sat_ex, sat_all, sat_sup, sat_and, sat_fail, true_and, and_true])
    (subst hL; subst hQ; simp only [L2, L3, std] at *; try simp only [sySet, syB, reduceCtorEq, forall_const, Int.reduceToNat, Int.reduceAdd, Int.reduceSub, Int.cast_ofNat_Int, Int.toNat_natCast, Nat.le_eq, Nat.sub_eq, ne_eq, implies_true, wadd, wsub, wmul, Nat.succ_eq_add_one] at *)
    have h1 : lenL l ≤ 1000000 := hz
    exact ⟨blt_t h, by omega, fun i j hi hj => by rw [cv1_std _ _ hj, cvGet_nth _ _ _ hi]⟩
def list_s (L : Seal) : Ent1 := (34, fun xs => match xs with
  | [x] => some (L okL x ∧ L lenOk (L rdL x), cvA L (L rowV (L rdL x)))
  | _ => none)
theorem list_good : Good Tryz.prog (list_s std) := by
  intro xs p r h hp
  unfold list_s at h
  simp only at h
  split at h
  rotate_left
  · cases h
  rename_i x
  cases h
  obtain ⟨ho, hz⟩ := hp
  refine ac_l ho ?_
  have hz : lenOk (rdL x) := hz
  show ACalls _ _ [cvL std (rdL x)] (cvA std (rowV (rdL x)))
  generalize rdL x = l at hz ⊢
  refine acalls_L' (T := tt) (S := fun L => sumOf [clone_s L]) (lo := fun _ => noA std) (lb := noA) 5 (fn := Tryz.f34) (xs := fun L => [cvL L l]) rfl rfl (by kernel_rfl) (by kernel_rfl) rfl tt_ok (sumOf_ok ⟨clone_good, trivial⟩) (by kernel_rfl) ?_
  intro L P' Q' hL hP hQ
  (cbv; try simp only [sat_need, sat_must, sat_ite, sat_done, sat_yes, sat_ex, sat_all, sat_sup, sat_and, sat_fail, true_and, and_true])
  (subst hL; subst hQ; simp only [L2, L3, std] at *; try simp only [sySet, syB, reduceCtorEq, forall_const, Int.reduceToNat, Int.reduceAdd, Int.reduceSub, Int.cast_ofNat_Int, Int.toNat_natCast, Nat.le_eq, Nat.sub_eq, ne_eq, implies_true, wadd, wsub, wmul, Nat.succ_eq_add_one] at *)
  rw [rdl]
  refine ⟨⟨okl l, hz⟩, ?_⟩
  show fits (.agg [.int .i64 3, .int .u64 0, .str [], .lst 4 (lenL l) (cvGet l)]) _
  simp [fits_aggi, fits1_aggi, fits1_aggs, fits1_aggl, fits1_agg0]
def putE (v : CV) : Int := if bareV v = true then (if deepV v > 6 then 8 else if (textV v).length > 8192 then 5 else 0) else 10
def putT (v : CV) : List UInt8 := if putE v = 0 then textV v else []
def cput_s (N : Nat) (L : Seal) : Ent1 := (33, fun xs => match xs with
  | [.agg [.int .i64 k, .int .u64 n, .str s, x]] => some (L okL x ∧ L2 L szOk N (mkV L k n s x) ∧ L txOk (mkV L k n s x), .tup [.str (L putT (mkV L k n s x)), .int .i64 (L putE (mkV L k n s x))])
  | _ => none)
theorem cput2_good (N : Nat) : Good Tryz.prog (cput_s N std) := by
  intro xs p r h hp
  unfold cput_s at h
  simp only at h
  split at h
  rotate_left
  · cases h
  rename_i k n s x
  cases h
  obtain ⟨ho, hz, hw⟩ := hp
  refine ac_v ho ?_
  rw [show mkV std k n s x = .mk k n s (rdL x) from rfl] at hz hw ⊢
  generalize rdL x = l at hz hw ⊢
  have hz : szOk N (.mk k n s l) := hz
  have hw : txOk (.mk k n s l) := hw
  refine acalls_L' (T := tt) (S := fun L => sumOfM [bare_s N L, deep_s N L] [put_m N L, bl_m L, bs_m L]) (lo := fun _ => noA std) (lb := noA) 5 (fn := Tryz.f33) (xs := fun L => [.agg [.int .i64 k, .int .u64 n, .str s, cvL L l]]) rfl rfl (by kernel_rfl) (by kernel_rfl) rfl tt_ok
    (sumOfM_ok ⟨bare_good N, deep_good N, trivial⟩ ⟨cput_good N, bl_good, bs_good, trivial⟩) (by kernel_rfl) ?_
  intro L P' Q' hL hP hQ
  have hB : ∀ b : List UInt8, L (L bytesOf (L lenN b)) (fun i => (AV.int .u8 (L2 L byteAt b i)).toI) = b := by subst hL; exact bytesOf_at
  (cbv; try simp only [sat_need, sat_must, sat_ite, sat_done, sat_yes, sat_ex, sat_all, sat_sup, sat_and, sat_fail, true_and, and_true])
  simp only [hB]
  (subst hL; subst hQ; simp only [L2, L3, std] at *; try simp only [sySet, syB, reduceCtorEq, forall_const, Int.reduceToNat, Int.reduceAdd, Int.reduceSub, Int.cast_ofNat_Int, Int.toNat_natCast, Nat.le_eq, Nat.sub_eq, ne_eq, implies_true, wadd, wsub, wmul, Nat.succ_eq_add_one] at *)
  simp only [rdl, mkl]
  refine ⟨⟨okl l, hz⟩, fun h1 => ?_, fun h1 => ⟨⟨okl l, hz⟩, fun h2 => ?_, fun h2 => ⟨⟨okl l, hz, hw⟩, fun h3 => ?_, fun h3 => ⟨⟨?_, hw.2⟩, ?_⟩⟩⟩⟩
  · simp [putT, putE, h1]
  · simp [putT, putE, h1, h2]
  · have h4 : ¬ 6 < deepV (.mk k n s l) := by omega
    have h5 : 8192 < (textV (.mk k n s l)).length := by omega
    simp [putT, putE, h1, h4, h5]
  · rw [textV_mk]; simp [byteK]
  · have h4 : ¬ 6 < deepV (.mk k n s l) := by omega
    have h5 : ¬ 8192 < (textV (.mk k n s l)).length := by omega
    simp [putT, putE, h1, h4, h5]
theorem one1 (v : CV) : rdL (.lst 4 1 fun i j => lget .dead [.int .i64 v.kd, .int .u64 v.nn, .str v.tx, .lst 4 (lenV v) (cvIn v)] (i * 4 + j)) = [v] := by
  show [CV.mk v.kd v.nn v.tx (rdL (.lst 4 (lenV v) (cvIn v)))] = [v]
  rw [mk_parts]
theorem one1_ok (v : CV) : okL (.lst 4 1 fun i j => lget .dead [.int .i64 v.kd, .int .u64 v.nn, .str v.tx, .lst 4 (lenV v) (cvIn v)] (i * 4 + j)) := by
  refine ⟨rfl, fun i hi => ?_⟩
  have : i = 0 := by omega
  subst this
  exact ⟨⟨_, rfl⟩, ⟨_, rfl⟩, ⟨_, rfl⟩, (rd_in v).2⟩
theorem short1 : shortZ 1 = [1] := by rw [shortZ, show (1 : Int).toNat = 1 from rfl, shortL_small (by decide)]; rfl
theorem short5 : shortZ 5 = [5] := by rw [shortZ, show (5 : Int).toNat = 5 from rfl, shortL_small (by decide)]; rfl
theorem ex_text : textV (rowV [numV 5]) = [3, 1, 1, 5] := by
  rw [rowV, numV, textV_mk, if_neg (by decide), if_neg (by decide), textLs, textV_mk, if_pos rfl, textLs, short5]
  show _ ++ (shortZ 1 ++ _) = _
  rw [short1]; rfl
theorem ex_bare : bareV (rowV [numV 5]) = true := by rw [rowV, numV, bareV, bareLs, bareV, bareLs]; rfl
theorem ex_deep : deepV (rowV [numV 5]) = 1 := by rw [rowV, numV, deepV, deepLs, deepV, deepLs]; rfl
theorem ex_size : sizeC (rowV [numV 5]) = 2 := by rw [rowV, numV, sizeC_mk, sizeCs_cons, sizeCs_nil, sizeC_mk, sizeCs_nil]
theorem ex_putE : putE (rowV [numV 5]) = 0 := by rw [putE, ex_bare, ex_deep, ex_text]; rfl
theorem ex_putT : putT (rowV [numV 5]) = [3, 1, 1, 5] := by rw [putT, ex_putE, ex_text]; rfl
theorem ex_tx : txOk (rowV [numV 5]) := by
  refine ⟨?_, by rw [ex_text]; decide⟩
  simp only [rowV, numV, wfV, wfLs, shortOk]
  decide
theorem awake07_ac : ACalls Tryz.prog 113 [] (.bool true) := by
  refine acalls_L (T := tt) (S := fun L => sumOf [num_s L, list_s L, cput_s 100 L, tru 124]) (lo := noA) (lb := noA) 5 (fn := Tryz.f113) rfl rfl (by kernel_rfl) (by kernel_rfl) rfl tt_ok (sumOf_ok ⟨num_good, list_good, cput2_good 100, tru_good Awake01_ac, trivial⟩) (by kernel_rfl) ?_
  intro L P' Q' hL hP hQ
  (cbv; try simp only [sat_need, sat_must, sat_ite, sat_done, sat_yes, sat_ex, sat_all, sat_sup, sat_and, sat_fail, true_and, and_true])
  (subst hL; subst hQ; simp only [L2, L3, std] at *; try simp only [sySet, syB, reduceCtorEq, forall_const, Int.reduceToNat, Int.reduceAdd, Int.reduceSub, Int.cast_ofNat_Int, Int.toNat_natCast, Nat.le_eq, Nat.sub_eq, ne_eq, implies_true, wadd, wsub, wmul, Nat.succ_eq_add_one] at *)
  simp only [one1, mk_parts, mkV_parts, ex_putE, ex_putT]
  exact ⟨⟨one1_ok _, by show (1 : Nat) ≤ 1000000; omega⟩, ⟨(rd_in _).2, ⟨by rw [ex_size]; omega, by omega⟩, ex_tx⟩, fun _ => trivial, trivial⟩
theorem Awake07_ac : ACalls Tryz.prog 80 [] (.bool true) := by
  refine acalls_L (T := tt) (S := fun L => sumOf [tru 113]) (lo := noA) (lb := noA) 5 (fn := Tryz.f80) rfl rfl (by kernel_rfl) (by kernel_rfl) rfl tt_ok (sumOf_ok ⟨tru_good awake07_ac, trivial⟩) (by kernel_rfl) ?_
  (intro L P1 Q1 hL hP hQ; cbv; subst hL; simp only [L2, L3, std, sat_need, sat_must, sat_ite, sat_done, sat_yes, sat_ex, sat_all, sat_sup, sat_and, sat_fail]; subst hQ)
  (simp only [sySet, syB, reduceCtorEq, forall_const, Int.reduceToNat, Int.reduceAdd, Int.reduceSub, Int.cast_ofNat_Int, Int.toNat_natCast, Nat.le_eq, Nat.sub_eq, ne_eq, implies_true, wadd, wsub, wmul, Nat.succ_eq_add_one])
theorem cv_push (g : Nat → CV) {i q j : Nat} (hq : q < i + 1) (hj : j < 4) :
    sel1 std (nblt q i) (cv1 std (g q) j) (lget .dead [.int .i64 (g i).kd, .int .u64 (g i).nn, .str (g i).tx, .lst 4 (lenV (g i)) (cvIn (g i))] ((q - i) * 4 + j)) = cv1 std (g q) j := by
  by_cases h : q < i
  · rw [blt_t h, show q - i = 0 by omega, Nat.zero_mul, Nat.zero_add]
    match j, hj with
    | 0, _ => rfl
    | 1, _ => rfl
    | 2, _ => rfl
    | 3, _ => rfl
  · have : q = i := by omega
    subst this
    rw [blt_f (by omega), show q - q = 0 by omega, Nat.zero_mul, Nat.zero_add]
    match j, hj with
    | 0, _ => rfl
    | 1, _ => rfl
    | 2, _ => rfl
    | 3, _ => rfl
end Sy
end Go.Proofs.YtcgikjfloloekaaGreatDoor
namespace Go.Proofs.YtcgikjfloloekaaGreatDoor
namespace Sy
open Go Go.RowKit
set_option maxRecDepth 100000
set_option linter.unusedSimpArgs false
set_option linter.unusedVariables false
structure Nd where
  k : Int
  n : Int
  s : List UInt8
  b : List UInt8
def nthD (l : List Nd) (i : Nat) : Nd := l.getD i ⟨0, 0, [], []⟩
def backs {α : Type} (all : List α) : List UInt8 → List α
  | [] => []
  | x :: b => if h : x.toNat < all.length then all[all.length - 1 - x.toNat] :: backs all b else backs all b
def sumI : List Int → Int
  | [] => 0
  | x :: l => x + sumI l
def sizN (all : List Int) (d : Nd) : Int := 1 + ((d.s.length / 8 : Nat) : Int) + sumI (backs all d.b)
def sizsN (l : List Nd) : Nat → List Int
  | 0 => []
  | i + 1 => sizsN l i ++ [sizN (sizsN l i) (nthD l i)]
def sizD (l : List Nd) (i : Nat) : Int := sizN (sizsN l i) (nthD l i)
def fineD (l : List Nd) (i : Nat) : Prop := sizD l i ≤ 2000 ∧ (nthD l i).s.length ≤ 9000 ∧ (nthD l i).b.length ≤ 20 ∧ l.length ≤ 40
def fineTo (l : List Nd) (i : Nat) : Prop := ∀ j, j < i → fineD l j
instance (l : List Nd) (i : Nat) : Decidable (fineD l i) := by unfold fineD; exact inferInstance
instance (l : List Nd) (i : Nat) : Decidable (fineTo l i) := by unfold fineTo; exact Nat.decidableBallLT i fun j _ => fineD l j
theorem cv_push2 (a : List CV) (v : CV) {p j : Nat} (hp : p < a.length + 1) (hj : j < 4) :
    sel1 std (nblt p a.length) (cv1 std (nthV a p) j) (lget .dead [.int .i64 v.kd, .int .u64 v.nn, .str v.tx, .lst 4 (lenV v) (cvIn v)] ((p - a.length) * 4 + j)) = cv1 std (nthV (a ++ [v]) p) j := by
  by_cases h : p < a.length
  · have e : nthV (a ++ [v]) p = nthV a p := by
      rw [nthV, nthV, List.getD_eq_getElem?_getD, List.getD_eq_getElem?_getD, List.getElem?_append_left h]
    rw [blt_t h, e, show p - a.length = 0 by omega, Nat.zero_mul, Nat.zero_add]
    match j, hj with
    | 0, _ => rfl
    | 1, _ => rfl
    | 2, _ => rfl
    | 3, _ => rfl
  · have e : nthV (a ++ [v]) p = v := by
      have : p = a.length := by omega
      subst this
      rw [nthV, List.getD_eq_getElem?_getD, List.getElem?_append_right (Nat.le_refl _)]
      simp
    rw [blt_f h, e, show p - a.length = 0 by omega, Nat.zero_mul, Nat.zero_add]
    match j, hj with
    | 0, _ => rfl
    | 1, _ => rfl
    | 2, _ => rfl
    | 3, _ => rfl
theorem cvGet_far : ∀ (a : List CV) (p j : Nat), a.length ≤ p → cvGet a p j = dflC j
  | [], p, j, _ => by rw [cvGet]
  | v :: a, 0, j, h => by simp at h
  | v :: a, p + 1, j, h => by rw [cvGet]; exact cvGet_far a p j (by simpa using h)
theorem cv_push3 (a : List CV) (v : CV) {p j : Nat} (hp : p < a.length + 1) (hj : j < 4) :
    sel1 std (nblt p a.length) (cvGet a p j) (lget .dead [.int .i64 v.kd, .int .u64 v.nn, .str v.tx, .lst 4 (lenV v) (cvIn v)] ((p - a.length) * 4 + j)) = cvGet (a ++ [v]) p j := by
  rw [cvGet_nth (a ++ [v]) p j (by simpa using hp), ← cv1_std _ j hj, ← cv_push2 a v hp hj]
  by_cases h : p < a.length
  · rw [cvGet_nth a p j h, ← cv1_std _ j hj]
  · rw [blt_f h, cvGet_far a p j (by omega)]
    have : p - a.length = 0 := by omega
    rw [this, Nat.zero_mul, Nat.zero_add]
    match j, hj with
    | 0, _ => rfl
    | 1, _ => rfl
    | 2, _ => rfl
    | 3, _ => rfl
end Sy
end Go.Proofs.YtcgikjfloloekaaGreatDoor
namespace Go.Proofs.YtcgikjfloloekaaGreatDoor
namespace Sy
open Go Go.RowKit
set_option maxRecDepth 100000
set_option linter.unusedSimpArgs false
set_option linter.unusedVariables false
def cb (s : List UInt8) (i : Nat) : Nat := (s.getD i 0).toNat
theorem cb_lt (s : List UInt8) (i : Nat) : cb s i < 256 := UInt8.toNat_lt _
def lng (s : List UInt8) : Nat → Nat → Nat → Nat × Nat × Nat
  | 0, _, _ => (0, 0, 4)
  | f + 1, i, n =>
    if s.length ≤ i then (0, 0, 3)
    else if i = 9 ∧ 1 < cb s i then (0, 0, 4)
    else if 128 ≤ cb s i then lng s f (i + 1) (n + cb s i % 128 * 2 ^ (7 * i))
    else if 0 < cb s i ∨ i = 0 then (n + cb s i % 128 * 2 ^ (7 * i), i + 1, 0)
    else (0, 0, 4)
def lngN (s : List UInt8) : Int := (lng s 10 0 0).1
def lngK (s : List UInt8) : Int := (lng s 10 0 0).2.1
def lngE (s : List UInt8) : Int := (lng s 10 0 0).2.2
def lngInv (s : List UInt8) (x : Nat × Nat) : Prop := x.1 ≤ s.length ∧ x.1 ≤ 9 ∧ x.2 < 2 ^ (7 * x.1) ∧ lng s (10 - x.1) x.1 x.2 = lng s 10 0 0
theorem bor_add {n m i : Nat} (hn : n < 2 ^ i) (hm : m * 2 ^ i < 2 ^ 64) (hn' : n < 2 ^ 64) : bor .u64 (n : Int) ((m * 2 ^ i : Nat) : Int) = ((n + m * 2 ^ i : Nat) : Int) := by
  have e : n ||| m * 2 ^ i = n + m * 2 ^ i := by
    have := Nat.shiftLeft_add_eq_or_of_lt hn m
    rw [Nat.shiftLeft_eq] at this
    rw [Nat.or_comm, ← this, Nat.add_comm]
  have hlt : n ||| m * 2 ^ i < 2 ^ 64 := Nat.or_lt_two_pow hn' hm
  unfold bor
  rw [show IntKind.u64.bits = 64 from rfl, BitVec.ofInt_natCast, BitVec.ofInt_natCast, BitVec.toNat_or, BitVec.toNat_ofNat, BitVec.toNat_ofNat, Nat.mod_eq_of_lt hn', Nat.mod_eq_of_lt hm, w_u64, ← e]
  omega
theorem shl_at {c i : Nat} (h : c * 2 ^ (7 * i) < 2 ^ 64) (hi : i ≤ 9) : wshl .u64 (c : Int) (7 * (i : Int)) = ((c * 2 ^ (7 * i) : Nat) : Int) := by
  unfold wshl
  rw [show (7 * (i : Int)).toNat = 7 * i by omega, show IntKind.u64.bits = 64 from rfl, Nat.min_eq_left (by omega), w_u64]
  have e : ((c : Int) * 2 ^ (7 * i)) = ((c * 2 ^ (7 * i) : Nat) : Int) := by simp
  rw [e]
  omega
theorem pow9 {i : Nat} (hi : i ≤ 9) : 2 ^ (7 * i) ≤ 2 ^ 63 := Nat.pow_le_pow_right (by decide) (by omega)
theorem lng_bits {c i n : Nat} (hi : i ≤ 9) (hn : n < 2 ^ (7 * i)) (hc : c < 256) (h9 : ¬ (i = 9 ∧ 1 < c)) : n + c % 128 * 2 ^ (7 * i) < 2 ^ (7 * (i + 1)) ∧ n + c % 128 * 2 ^ (7 * i) < 2 ^ 64 ∧ c % 128 * 2 ^ (7 * i) < 2 ^ 64 ∧ n < 2 ^ 64 := by
  have h1 := pow9 hi
  have e : 2 ^ (7 * (i + 1)) = 128 * 2 ^ (7 * i) := by rw [show 7 * (i + 1) = 7 + 7 * i by omega, Nat.pow_add]
  have h2 : c % 128 * 2 ^ (7 * i) ≤ 127 * 2 ^ (7 * i) := Nat.mul_le_mul_right _ (by omega)
  rw [e]
  refine ⟨by omega, ?_⟩
  by_cases h : i = 9
  · subst h
    have : c ≤ 1 := by omega
    have h3 : c % 128 * 2 ^ (7 * 9) ≤ 1 * 2 ^ (7 * 9) := Nat.mul_le_mul_right _ (by omega)
    omega
  · have h3 : 2 ^ (7 * i) ≤ 2 ^ 56 := Nat.pow_le_pow_right (by decide) (by omega)
    omega
theorem lng_or {c i n : Nat} (hi : i ≤ 9) (hn : n < 2 ^ (7 * i)) (hc : c < 256) (h9 : ¬ (i = 9 ∧ 1 < c)) : bor .u64 (n : Int) (wshl .u64 ((c : Int) % 128) (7 * (i : Int))) = ((n + c % 128 * 2 ^ (7 * i) : Nat) : Int) := by
  obtain ⟨_, _, h3, h4⟩ := lng_bits hi hn hc h9
  rw [show ((c : Int) % 128) = ((c % 128 : Nat) : Int) by omega, shl_at h3 hi, bor_add hn h3 h4]
theorem lng_step {s : List UInt8} {i n : Nat} (hx : lngInv s (i, n)) : lng s 10 0 0 = if s.length ≤ i then (0, 0, 3)
    else if i = 9 ∧ 1 < cb s i then (0, 0, 4)
    else if 128 ≤ cb s i then lng s (9 - i) (i + 1) (n + cb s i % 128 * 2 ^ (7 * i))
    else if 0 < cb s i ∨ i = 0 then (n + cb s i % 128 * 2 ^ (7 * i), i + 1, 0)
    else (0, 0, 4) := by
  obtain ⟨h1, h2, h3, h4⟩ := hx
  rw [← h4]
  simp only at h2 ⊢
  rw [show 10 - i = (9 - i) + 1 by omega, lng]
theorem lng_is {s : List UInt8} {a b c : Nat} (h : lng s 10 0 0 = (a, b, c)) : (a : Int) = lngN s ∧ (b : Int) = lngK s ∧ (c : Int) = lngE s := by
  unfold lngN lngK lngE
  rw [h]
  exact ⟨rfl, rfl, rfl⟩
theorem lng_1 {s : List UInt8} {i n : Nat} (hx : lngInv s (i, n)) (h : (i : Int) = (s.length : Int)) : 0 = lngN s ∧ 0 = lngK s ∧ 3 = lngE s := by
  have := lng_step hx
  rw [if_pos (by omega)] at this
  exact lng_is this
theorem cb_is (s : List UInt8) (i : Nat) : ((s.getD i 0).toNat : Int) % 18446744073709551616 = (cb s i : Int) := by
  have := cb_lt s i
  unfold cb at *
  omega
theorem lng_2 {s : List UInt8} {i n : Nat} (hx : lngInv s (i, n)) (h : ¬ (i : Int) = (s.length : Int)) (h9 : (i : Int) = 9) (hc : 1 < ((s.getD i 0).toNat : Int) % 18446744073709551616) : 0 = lngN s ∧ 0 = lngK s ∧ 4 = lngE s := by
  have := lng_step hx
  have h1 := hx.1
  rw [cb_is] at hc
  simp only at h1
  rw [if_neg (by omega), if_pos ⟨by omega, by omega⟩] at this
  exact lng_is this
theorem lng_x {s : List UInt8} {i n : Nat} (hx : lngInv s (i, n)) (h9 : ¬ (i = 9 ∧ 1 < cb s i)) : bor .u64 (n : Int) (wshl .u64 ((((s.getD i 0).toNat : Int) % 18446744073709551616).tmod 128) ((7 * (i : Int) + 9223372036854775808) % 18446744073709551616 - 9223372036854775808)) = ((n + cb s i % 128 * 2 ^ (7 * i) : Nat) : Int) := by
  have h1 := hx.2.1
  have h2 := hx.2.2.1
  simp only at h1 h2
  rw [cb_is, Int.tmod_eq_emod_of_nonneg (by omega), show (7 * (i : Int) + 9223372036854775808) % 18446744073709551616 - 9223372036854775808 = 7 * (i : Int) by omega]
  exact lng_or h1 h2 (cb_lt s i) h9
theorem lng_3 {s : List UInt8} {i n : Nat} (hx : lngInv s (i, n)) (h : ¬ (i : Int) = (s.length : Int)) (h9 : ¬ (i = 9 ∧ 1 < cb s i)) (hm : 128 ≤ ((s.getD i 0).toNat : Int) % 18446744073709551616) : lngInv s (i + 1, n + cb s i % 128 * 2 ^ (7 * i)) ∧ 10 - (i + 1) + 1 ≤ 10 - i ∧ i ≤ 8 := by
  have h0 := lng_step hx
  have h1 := hx.2.1
  have h2 := hx.2.2.1
  have h3 := hx.1
  rw [cb_is] at hm
  simp only at h1 h2 h3
  rw [if_neg (by omega), if_neg h9, if_pos (by omega)] at h0
  refine ⟨⟨?_, ?_, (lng_bits h1 h2 (cb_lt s i) h9).1, ?_⟩, by omega, by omega⟩
  · simp only; omega
  · simp only; omega
  · simp only
    rw [h0]; congr 1; omega
theorem lng_4 {s : List UInt8} {i n : Nat} (hx : lngInv s (i, n)) (h : ¬ (i : Int) = (s.length : Int)) (h9 : ¬ (i = 9 ∧ 1 < cb s i)) (hm : ((s.getD i 0).toNat : Int) % 18446744073709551616 < 128) (hp : 0 < cb s i ∨ i = 0) :
    bor .u64 (n : Int) (wshl .u64 ((((s.getD i 0).toNat : Int) % 18446744073709551616).tmod 128) ((7 * (i : Int) + 9223372036854775808) % 18446744073709551616 - 9223372036854775808)) = lngN s ∧
      ((i : Int) + 1 + 9223372036854775808) % 18446744073709551616 - 9223372036854775808 = lngK s ∧ 0 = lngE s := by
  have h0 := lng_step hx
  have h1 := hx.2.1
  have h3 := hx.1
  rw [cb_is] at hm
  simp only at h1 h3
  rw [if_neg (by omega), if_neg h9, if_neg (by omega), if_pos hp] at h0
  obtain ⟨e1, e2, e3⟩ := lng_is h0
  rw [lng_x hx h9]
  exact ⟨e1, by rw [← e2]; omega, e3⟩
theorem lng_5 {s : List UInt8} {i n : Nat} (hx : lngInv s (i, n)) (h : ¬ (i : Int) = (s.length : Int)) (h9 : ¬ (i = 9 ∧ 1 < cb s i)) (hm : ((s.getD i 0).toNat : Int) % 18446744073709551616 < 128) (hp : ((s.getD i 0).toNat : Int) % 18446744073709551616 ≤ 0)
    (h1 : ¬ ((i : Int) + 1 + 9223372036854775808) % 18446744073709551616 - 9223372036854775808 = 1) : 0 = lngN s ∧ 0 = lngK s ∧ 4 = lngE s := by
  have h0 := lng_step hx
  have h2 := hx.2.1
  have h3 := hx.1
  rw [cb_is] at hm hp
  simp only at h2 h3
  rw [if_neg (by omega), if_neg h9, if_neg (by omega), if_neg (by omega)] at h0
  exact lng_is h0
def lngA (L : Seal) (s : List UInt8) : Nat → St → Option Ann := fun id st => match id with
  | 0 => some ⟨Nat × Nat, fun x => [(6, .int .i64 (L natI (L Prod.fst x))), (5, .int .u64 (L natI (L Prod.snd x)))], fun _ => [], [0], [],
      fun x => L2 L lngInv s x, fun x => L (fun x : Nat × Nat => 10 - x.1) x⟩
  | _ => none
def lng_s (L : Seal) : Ent1 := (94, fun xs => match xs with | [.str s] => some (True, .tup [.int .u64 (L lngN s), .int .i64 (L lngK s), .int .i64 (L lngE s)]) | _ => none)
theorem lng_good : Good Tryz.prog (lng_s std) := by
  intro xs p r h hp
  dsimp only [lng_s] at h ⊢
  split at h <;> cases h
  try simp only [L2, L3, std] at hp ⊢
  rename_i s
  refine acalls_L (T := tt) (S := noS) (lo := noA) (lb := fun L => lngA L s) 5 (fn := Tryz.f94) rfl rfl (by kernel_rfl) (by kernel_rfl) rfl tt_ok (noS_ok _) (by kernel_rfl) ?_
  intro L P' Q' hL hP hQ
  (cbv; try simp only [sat_need, sat_must, sat_ite, sat_done, sat_yes, sat_ex, sat_all, sat_sup, sat_and, sat_fail, true_and, and_true])
  refine ⟨fun x hx => ?_, ⟨(0, 0), ?_⟩⟩
  · cbv at hx
    obtain ⟨i, n⟩ := x
    (cbv; try simp only [sat_need, sat_must, sat_ite, sat_done, sat_yes, sat_ex, sat_all, sat_sup, sat_and, sat_fail, true_and, and_true])
    obtain ⟨m, hm'⟩ : ∃ m, m = n + cb s i % 128 * 2 ^ (7 * i) := ⟨_, rfl⟩
    refine ⟨fun h => ?_, fun h => ⟨?_, fun h9 => ⟨fun hc => ?_, fun hc => ⟨?_, ?_, fun hm => ⟨(i + 1, m), ?_⟩, fun hm => ⟨fun hp => ?_, fun hp => ⟨fun h1 => ?_, fun h1 => ?_⟩⟩⟩⟩,
      fun h9 => ⟨?_, ?_, fun hm => ⟨(i + 1, m), ?_⟩, fun hm => ⟨fun hp => ?_, fun hp => ⟨fun h1 => ?_, fun h1 => ?_⟩⟩⟩⟩⟩
    · (subst hL; subst hQ; simp only [L2, L3, std] at *; try simp only [sySet, syB, reduceCtorEq, forall_const, Int.reduceToNat, Int.reduceAdd, Int.reduceSub, Int.cast_ofNat_Int, Int.toNat_natCast, Nat.le_eq, Nat.sub_eq, ne_eq, implies_true, wadd, wsub, wmul, Nat.succ_eq_add_one] at *)
      exact lng_1 hx h
    · (subst hL; subst hQ; simp only [L2, L3, std] at *; try simp only [sySet, syB, reduceCtorEq, forall_const, Int.reduceToNat, Int.reduceAdd, Int.reduceSub, Int.cast_ofNat_Int, Int.toNat_natCast, Nat.le_eq, Nat.sub_eq, ne_eq, implies_true, wadd, wsub, wmul, Nat.succ_eq_add_one] at *)
      have := hx.1
      simp only at this
      omega
    · (subst hL; subst hQ; simp only [L2, L3, std] at *; try simp only [sySet, syB, reduceCtorEq, forall_const, Int.reduceToNat, Int.reduceAdd, Int.reduceSub, Int.cast_ofNat_Int, Int.toNat_natCast, Nat.le_eq, Nat.sub_eq, ne_eq, implies_true, wadd, wsub, wmul, Nat.succ_eq_add_one] at *)
      exact lng_2 hx h h9 hc
    · (subst hL; subst hQ; simp only [L2, L3, std] at *; try simp only [sySet, syB, reduceCtorEq, forall_const, Int.reduceToNat, Int.reduceAdd, Int.reduceSub, Int.cast_ofNat_Int, Int.toNat_natCast, Nat.le_eq, Nat.sub_eq, ne_eq, implies_true, wadd, wsub, wmul, Nat.succ_eq_add_one] at *)
      decide
    · (subst hL; subst hQ; simp only [L2, L3, std] at *; try simp only [sySet, syB, reduceCtorEq, forall_const, Int.reduceToNat, Int.reduceAdd, Int.reduceSub, Int.cast_ofNat_Int, Int.toNat_natCast, Nat.le_eq, Nat.sub_eq, ne_eq, implies_true, wadd, wsub, wmul, Nat.succ_eq_add_one] at *)
      have := hx.2.1
      simp only at this
      rw [Int.emod_eq_of_lt (by omega) (by omega)]
      omega
    · (cbv; try simp only [sat_need, sat_must, sat_ite, sat_done, sat_yes, sat_ex, sat_all, sat_sup, sat_and, sat_fail, true_and, and_true])
      (subst hL; subst hQ; simp only [L2, L3, std] at *; try simp only [sySet, syB, reduceCtorEq, forall_const, Int.reduceToNat, Int.reduceAdd, Int.reduceSub, Int.cast_ofNat_Int, Int.toNat_natCast, Nat.le_eq, Nat.sub_eq, ne_eq, implies_true, wadd, wsub, wmul, Nat.succ_eq_add_one] at *)
      rw [cb_is] at hc
      exact absurd hm (by rw [cb_is]; omega)
    · (subst hL; subst hQ; simp only [L2, L3, std] at *; try simp only [sySet, syB, reduceCtorEq, forall_const, Int.reduceToNat, Int.reduceAdd, Int.reduceSub, Int.cast_ofNat_Int, Int.toNat_natCast, Nat.le_eq, Nat.sub_eq, ne_eq, implies_true, wadd, wsub, wmul, Nat.succ_eq_add_one] at *)
      rw [cb_is] at hc
      exact lng_4 hx h (by omega) hm (by rw [cb_is] at hp; omega)
    · (subst hL; subst hQ; simp only [L2, L3, std] at *; try simp only [sySet, syB, reduceCtorEq, forall_const, Int.reduceToNat, Int.reduceAdd, Int.reduceSub, Int.cast_ofNat_Int, Int.toNat_natCast, Nat.le_eq, Nat.sub_eq, ne_eq, implies_true, wadd, wsub, wmul, Nat.succ_eq_add_one] at *)
      rw [cb_is] at hc
      have := hx.2.1
      simp only at this
      exact lng_4 hx h (by omega) hm (by omega)
    · (subst hL; subst hQ; simp only [L2, L3, std] at *; try simp only [sySet, syB, reduceCtorEq, forall_const, Int.reduceToNat, Int.reduceAdd, Int.reduceSub, Int.cast_ofNat_Int, Int.toNat_natCast, Nat.le_eq, Nat.sub_eq, ne_eq, implies_true, wadd, wsub, wmul, Nat.succ_eq_add_one] at *)
      rw [cb_is] at hc
      exact lng_5 hx h (by omega) hm hp h1
    · (subst hL; subst hQ; simp only [L2, L3, std] at *; try simp only [sySet, syB, reduceCtorEq, forall_const, Int.reduceToNat, Int.reduceAdd, Int.reduceSub, Int.cast_ofNat_Int, Int.toNat_natCast, Nat.le_eq, Nat.sub_eq, ne_eq, implies_true, wadd, wsub, wmul, Nat.succ_eq_add_one] at *)
      decide
    · (subst hL; subst hQ; simp only [L2, L3, std] at *; try simp only [sySet, syB, reduceCtorEq, forall_const, Int.reduceToNat, Int.reduceAdd, Int.reduceSub, Int.cast_ofNat_Int, Int.toNat_natCast, Nat.le_eq, Nat.sub_eq, ne_eq, implies_true, wadd, wsub, wmul, Nat.succ_eq_add_one] at *)
      have := hx.2.1
      simp only at this
      rw [Int.emod_eq_of_lt (by omega) (by omega)]
      omega
    · (cbv; try simp only [sat_need, sat_must, sat_ite, sat_done, sat_yes, sat_ex, sat_all, sat_sup, sat_and, sat_fail, true_and, and_true])
      (subst hL; subst hQ; simp only [L2, L3, std] at *; try simp only [sySet, syB, reduceCtorEq, forall_const, Int.reduceToNat, Int.reduceAdd, Int.reduceSub, Int.cast_ofNat_Int, Int.toNat_natCast, Nat.le_eq, Nat.sub_eq, ne_eq, implies_true, wadd, wsub, wmul, Nat.succ_eq_add_one] at *)
      obtain ⟨q1, q2, q3⟩ := lng_3 hx h (by omega) hm
      rw [lng_x hx (by omega), hm']
      exact ⟨rfl, by omega, q1, q2⟩
    · (subst hL; subst hQ; simp only [L2, L3, std] at *; try simp only [sySet, syB, reduceCtorEq, forall_const, Int.reduceToNat, Int.reduceAdd, Int.reduceSub, Int.cast_ofNat_Int, Int.toNat_natCast, Nat.le_eq, Nat.sub_eq, ne_eq, implies_true, wadd, wsub, wmul, Nat.succ_eq_add_one] at *)
      exact lng_4 hx h (by omega) hm (by rw [cb_is] at hp; omega)
    · (subst hL; subst hQ; simp only [L2, L3, std] at *; try simp only [sySet, syB, reduceCtorEq, forall_const, Int.reduceToNat, Int.reduceAdd, Int.reduceSub, Int.cast_ofNat_Int, Int.toNat_natCast, Nat.le_eq, Nat.sub_eq, ne_eq, implies_true, wadd, wsub, wmul, Nat.succ_eq_add_one] at *)
      have := hx.2.1
      simp only at this
      exact lng_4 hx h (by omega) hm (by omega)
    · (subst hL; subst hQ; simp only [L2, L3, std] at *; try simp only [sySet, syB, reduceCtorEq, forall_const, Int.reduceToNat, Int.reduceAdd, Int.reduceSub, Int.cast_ofNat_Int, Int.toNat_natCast, Nat.le_eq, Nat.sub_eq, ne_eq, implies_true, wadd, wsub, wmul, Nat.succ_eq_add_one] at *)
      exact lng_5 hx h (by omega) hm hp h1
  · (cbv; try simp only [sat_need, sat_must, sat_ite, sat_done, sat_yes, sat_ex, sat_all, sat_sup, sat_and, sat_fail, true_and, and_true])
    (subst hL; subst hQ; simp only [L2, L3, std] at *; try simp only [sySet, syB, reduceCtorEq, forall_const, Int.reduceToNat, Int.reduceAdd, Int.reduceSub, Int.cast_ofNat_Int, Int.toNat_natCast, Nat.le_eq, Nat.sub_eq, ne_eq, implies_true, wadd, wsub, wmul, Nat.succ_eq_add_one] at *)
    exact ⟨Nat.zero_le _, by omega, by simp, rfl⟩
end Sy
end Go.Proofs.YtcgikjfloloekaaGreatDoor
