/- Chapter 6 (digest): Sum, Text, Print. -/
import Derived.Test.YthlggigjnpldcaaAgD
namespace Go.Proofs.Ythlggigjnpldcaa
namespace Sy
open Go Go.RowKit
set_option maxRecDepth 100000
set_option linter.unusedSimpArgs false
set_option linter.unusedVariables false

def blkOf (p : List UInt8) (n : Nat) : List UInt8 := (p.drop (64 * n)).take 64
/-- The words behind so many blocks. -/
def shaH (p : List UInt8) : Nat → List Int
  | 0 => firstL
  | n + 1 => mixZ (shaH p n) (blkOf p n)
def outL (m : List Int) : Nat → List UInt8
  | 0 => []
  | n + 1 => outL m n ++ putZ (IntKind.u64.wrap (nthI m n)) 4
def sumZ (p : List UInt8) : List UInt8 := outL (shaH p (p.length / 64)) 8
def dropB (p : List UInt8) (n : Nat) : List UInt8 := p.drop (64 * n)
def blkOk (p : List UInt8) (n : Nat) : Prop := 64 * (n + 1) ≤ p.length
theorem outL_len (m : List Int) : ∀ n, (outL m n).length = 4 * n
  | 0 => rfl
  | n + 1 => by rw [outL, List.length_append, outL_len m n, put_len _ _ (by decide) (by decide)]; show 4 * n + 4 = _; omega
theorem sumZ_len (p : List UInt8) : (sumZ p).length = 32 := outL_len _ 8
theorem padZ_len (s : List UInt8) : (padZ s).length % 64 = 0 ∧ 64 ≤ (padZ s).length ∧ (padZ s).length = s.length + 9 + padN s := by
  have : (padZ s).length = s.length + 9 + padN s := by
    rw [padZ, List.length_append, List.length_append, List.length_append, List.length_replicate, put_len _ _ (by decide) (by decide)]
    show s.length + 1 + padN s + 8 = _
    omega
  rw [this]
  unfold padN
  omega
def sumX (x : AV) : List UInt8 := sumZ (padZ (joinZ x))
def smB (L : Seal) (p : List UInt8) : Nat → St → Option Ann := fun id st => match id with
  | 0 => some ⟨Nat, fun n => [(3, .str (L2 L dropB p n)), (4, .ref 4 0), (5, .ref 5 0)], fun n => [(5, .row 51 1 64 (fun i _ => .int .u32 (L2 L nthI keysL i))), (4, .row 130 1 8 (fun i _ => .int .u32 (L2 L nthI (L2 L shaH p n) i)))], [2, 700005], [2], fun n => L2 L blkOk p n, fun n => L2 L (fun (p : List UInt8) (n : Nat) => p.length - n) p n⟩
  | _ => none
def smA (L : Seal) (m : List Int) : Nat → St → Option Ann := fun id st => match id with
  | 0 => some ⟨Nat, fun n => [(23, .int .i64 (L natI n)), (22, w8L L m)], fun n => [(6, .row 60 1 32 (fun i _ => .int .u8 (L2 L byteAt (L2 L outL m n) i)))], [2, 6], [2], fun n => L (fun n : Nat => n ≤ 8) n, fun n => L (fun n : Nat => 8 - n) n⟩
  | _ => none
def sum_s (L : Seal) : Ent1 := (29, fun xs => match xs with | [x] => some (L joinOk x, .arr 32 (fun j => .int .u8 (L2 L byteAt (L sumX x) j))) | _ => none)
theorem blk_room {p : List UInt8} {k : Nat} (h : blkOk p k) : inC 64 (slen (dropB p k)) = true := by
  have h : 64 * (k + 1) ≤ p.length := h
  rw [inC, slen, dropB, List.length_drop, Bool.and_eq_true, decide_eq_true_eq, decide_eq_true_eq]
  omega
theorem blk_len {p : List UInt8} {k : Nat} (h : blkOk p k) : ((dropB p k).take (64 : Int).toNat).length = 64 := by
  have h : 64 * (k + 1) ≤ p.length := h
  rw [dropB, List.length_take, List.length_drop]
  show min 64 _ = _
  omega
theorem blk_drop {p : List UInt8} {k k' : Nat} (h : k' = k + 1) : (dropB p k).drop (64 : Int).toNat = dropB p k' := by
  subst h
  rw [dropB, dropB, List.drop_drop]; rfl
theorem blk_more {p : List UInt8} {k k' : Nat} (hp : p.length % 64 = 0) (h : k' = k + 1) (hn : ¬ (dropB p k').length = 0) : blkOk p k' := by
  rw [dropB, List.length_drop] at hn
  show 64 * (k' + 1) ≤ p.length
  omega
theorem blk_all {p : List UInt8} {k k' : Nat} (hk : blkOk p k) (h : k' = k + 1) (hn : (dropB p k').length = 0) : k' = p.length / 64 := by
  have hk : 64 * (k + 1) ≤ p.length := hk
  rw [dropB, List.length_drop] at hn
  omega
theorem eight {l : List Int} (h : l.length = 8) : [nthI l 0, nthI l 1, nthI l 2, nthI l 3, nthI l 4, nthI l 5, nthI l 6, nthI l 7] = l := by
  match l, h with
  | [a, b, c, d, e, f, g, h], _ => rfl
theorem mixZ_len (h : List Int) (s : List UInt8) : (mixZ h s).length = 8 := by
  rw [mixZ, hS, hN, List.length_map, List.length_range]
theorem shaH_len (p : List UInt8) : ∀ k, (shaH p k).length = 8
  | 0 => rfl
  | k + 1 => mixZ_len _ _
theorem sha_next {p : List UInt8} {k k' : Nat} (h : k' = k + 1) : mix2 ([nthI (shaH p k) 0, nthI (shaH p k) 1, nthI (shaH p k) 2, nthI (shaH p k) 3, nthI (shaH p k) 4, nthI (shaH p k) 5, nthI (shaH p k) 6, nthI (shaH p k) 7], (dropB p k).take (64 : Int).toNat) = shaH p k' := by
  rw [eight (shaH_len p k)]
  subst h
  rfl
theorem seq_no {l : List UInt8} (h : (!seq l []) = true) : ¬ l.length = 0 := by
  intro hl
  rw [List.eq_nil_of_length_eq_zero hl] at h
  exact absurd h (by decide)
theorem seq_yes {l : List UInt8} (h : (!seq l []) = false) : l.length = 0 := by
  have : l = [] := by
    have h2 : seq l [] = true := by simpa using h
    simpa [seq] using h2
  rw [this]; rfl
theorem out_in {q : Nat} (h : q < 8) : inC (wmul .i64 4 (natI q)) (natI 32) = true := by
  rw [(four_n (n := q) (by omega)).1, inC_t]
  unfold natI
  omega
theorem out_put (x : Int) : putOk (IntKind.u64.wrap x) 4 := by
  refine ⟨wrap_nonneg _, ?_, by decide, by decide⟩
  rw [w_u64]; omega
theorem out_room {q : Nat} {x : Int} (h : q < 8) : roomCp (List.length (putZ x 4)) (Nat.sub 32 (Int.toNat (wmul .i64 4 (natI q)))) = true := by
  rw [(four_n (n := q) (by omega)).1, Int.toNat_natCast, put_len _ _ (by decide) (by decide), roomCp, Bool.and_eq_true, nblt_eq, nble_eq]
  show 0 < 32 - 4 * q ∧ 4 ≤ 32 - 4 * q
  omega
theorem out_set {m : List Int} {q q' : Nat} (hq : q' = q + 1) (h8 : q < 8) (i : Nat) : sel1 std (segCp (Nat.add 0 (Int.toNat (wmul .i64 4 (natI q)))) (List.length (putZ (IntKind.u64.wrap (nthI m q)) 4)) i)
    (.int .u8 (sidx (putZ (IntKind.u64.wrap (nthI m q)) 4) (natI (Nat.sub i (Nat.add 0 (Int.toNat (wmul .i64 4 (natI q)))))))) (.int .u8 (byteAt (outL m q) i)) = .int .u8 (byteAt (outL m q') i) := by
  subst hq
  rw [(four_n (n := q) (by omega)).1, Int.toNat_natCast, show Nat.add 0 (4 * q) = 4 * q from Nat.zero_add _, show outL m (q + 1) = outL m q ++ putZ (IntKind.u64.wrap (nthI m q)) 4 from rfl]
  have hl := outL_len m q
  have hp := put_len (IntKind.u64.wrap (nthI m q)) 4 (by decide) (by decide)
  generalize outL m q = l at hl ⊢
  generalize putZ (IntKind.u64.wrap (nthI m q)) 4 = b at hp ⊢
  have hp : b.length = 4 := hp
  rw [hp, segCp]
  by_cases h1 : i < 4 * q
  · rw [show nble (4 * q) i = false by rw [Bool.eq_false_iff, ne_eq, nble_eq]; omega, byteAt_l (by omega)]; rfl
  · rw [show nble (4 * q) i = true by rw [nble_eq]; omega, byteAt_r (by omega), hl]
    by_cases h2 : i < 4 * q + 4
    · rw [blt_t h2]
      show AV.int .u8 (sidx b (natI (i - 4 * q))) = _
      rw [sidx, natI, Int.toNat_natCast]; rfl
    · rw [blt_f h2]
      show AV.int .u8 (byteAt l i) = _
      rw [byteAt, byteAt, List.getD_eq_getElem?_getD, List.getD_eq_getElem?_getD, List.getElem?_eq_none (by omega), List.getElem?_eq_none (by omega)]
theorem sum_lst {n : Nat} {get : Nat → Nat → AV} (hp : joinOk (.lst 1 n get)) : ACalls Try.prog 29 [.lst 1 n get] (.arr 32 (fun j => .int .u8 (L2 std byteAt (std sumX (.lst 1 n get)) j))) := by
  obtain ⟨p, hpp⟩ : ∃ p, p = padZ (joinZ (.lst 1 n get)) := ⟨_, rfl⟩
  obtain ⟨m, hm⟩ : ∃ m, m = shaH p (p.length / 64) := ⟨_, rfl⟩
  have hlen : p.length % 64 = 0 ∧ 64 ≤ p.length := by rw [hpp]; exact ⟨(padZ_len _).1, (padZ_len _).2.1⟩
  refine acalls_L (T := tt) (S := fun L => sumOf [join_s L, whole_s L, first_s L, keys_s L, mix_s L, put_s L]) (lo := fun L => smA L m) (lb := fun L => smB L p) 5 (fn := Try.f29) rfl rfl (by kernel_rfl) (by kernel_rfl) rfl tt_ok (sumOf_ok ⟨join_good, whole_good, first_good, keys_good, mix_good, put_good, trivial⟩) (by kernel_rfl) ?_
  obtain ⟨n0, hn0⟩ : ∃ n : Nat, n = 0 := ⟨_, rfl⟩
  intro L P' Q' hL hP hQ
  obtain ⟨q0, hq0⟩ : ∃ n : Nat, n = 0 := ⟨_, rfl⟩
  (cbv; try simp only [sat_need, sat_must, sat_ite, sat_done, sat_yes, sat_ex, sat_all, sat_sup, sat_and, sat_fail, true_and, and_true])
  refine ⟨fun k hk => ?_, ?_⟩
  · obtain ⟨k', hk'⟩ : ∃ k' : Nat, k' = k + 1 := ⟨_, rfl⟩
    (cbv; try simp only [sat_need, sat_must, sat_ite, sat_done, sat_yes, sat_ex, sat_all, sat_sup, sat_and, sat_fail, true_and, and_true])
    refine ⟨?_, ⟨⟨?_, ?_⟩, ?_, fun h1 => ⟨k', ?_⟩, fun h1 => ⟨⟨q0, ?_⟩, fun q hq => ?_⟩⟩⟩
    · subst hL; exact blk_room hk
    · subst hL; exact ⟨rfl, fun j hj => rfl⟩
    · subst hL; exact blk_len hk
    · subst hL; exact blk_room hk
    · (cbv; try simp only [sat_need, sat_must, sat_ite, sat_done, sat_yes, sat_ex, sat_all, sat_sup, sat_and, sat_fail, true_and, and_true])
      subst hL; subst hQ
      simp only [L2, std] at h1 ⊢
      rw [blk_drop hk'] at h1 ⊢
      rw [sha_next hk', eight (shaH_len _ _)]
      refine ⟨fun _ _ _ _ => trivial, fun _ _ _ _ => rfl, fun _ _ _ _ => trivial, rfl, blk_more hlen.1 hk' (seq_no h1), ?_⟩
      have hk : 64 * (k + 1) ≤ p.length := hk
      show p.length - k' + 1 ≤ p.length - k
      omega
    · (cbv; try simp only [sat_need, sat_must, sat_ite, sat_done, sat_yes, sat_ex, sat_all, sat_sup, sat_and, sat_fail, true_and, and_true])
      subst hL; subst hQ
      simp only [L2, std] at h1 ⊢
      rw [blk_drop hk'] at h1
      rw [sha_next hk', eight (shaH_len _ _)]
      have hm : m = shaH p k' := by rw [hm, ← blk_all hk hk' (seq_yes h1)]
      rw [← hm]
      subst hq0
      refine ⟨fun _ _ _ _ => trivial, fun i j hi hj => ?_, rfl, rfl, rfl, rfl, rfl, rfl, rfl, rfl, rfl, by decide⟩
      have : j = 0 := by omega
      subst this; rfl
    · obtain ⟨q', hq'⟩ : ∃ q' : Nat, q' = q + 1 := ⟨_, rfl⟩
      have hm8 : m.length = 8 := by rw [hm]; exact shaH_len _ _
      (cbv; try simp only [sat_need, sat_must, sat_ite, sat_done, sat_yes, sat_ex, sat_all, sat_sup, sat_and, sat_fail, true_and, and_true])
      refine ⟨fun h2 => ⟨?_, ?_, ?_, ?_, q', ?_⟩, fun h2 => ?_⟩
      · subst hL; exact inR_nat (lt_of_ilt h2)
      · subst hL; exact out_in (lt_of_ilt h2)
      · subst hL; exact out_put _
      · subst hL; exact out_room (lt_of_ilt h2)
      · (cbv; try simp only [sat_need, sat_must, sat_ite, sat_done, sat_yes, sat_ex, sat_all, sat_sup, sat_and, sat_fail, true_and, and_true])
        subst hL; subst hQ
        have h8 : q < 8 := lt_of_ilt h2
        have ek : (natI q).toNat = q := Int.toNat_natCast q
        simp only [L2, L3, std, ek]
        rw [eight hm8]
        refine ⟨fun _ _ _ _ => trivial, fun i j hi hj => out_set hq' h8 i, ?_, ?_, ?_⟩
        · exact natI_up hq' (by omega)
        · show q' ≤ 8
          omega
        · show 8 - q' + 1 ≤ 8 - q
          omega
      · subst hL; subst hQ
        have hq8 : q = 8 := by
          have : ¬ q < 8 := ge_of_ilt h2
          have : q ≤ 8 := hq
          omega
        subst hq8
        rw [fits_arr]
        intro j hj
        simp only [L2, std, sumX, sumZ]
        rw [← hpp, ← hm]
  · (cbv; try simp only [sat_need, sat_must, sat_ite, sat_done, sat_yes, sat_ex, sat_all, sat_sup, sat_and, sat_fail, true_and, and_true])
    refine ⟨?_, ?_, n0, ?_⟩
    · subst hL; exact hp
    · subst hL; exact hp.2.2
    · (cbv; try simp only [sat_need, sat_must, sat_ite, sat_done, sat_yes, sat_ex, sat_all, sat_sup, sat_and, sat_fail, true_and, and_true])
      subst hL; subst hQ
      refine ⟨fun _ _ _ _ => trivial, fun i j hi hj => ?_, fun _ _ _ _ => trivial, ?_, ?_⟩
      · subst hn0; rfl
      · subst hn0; exact hpp.symm
      · subst hn0
        show 64 * (0 + 1) ≤ p.length
        omega
theorem sum_nil (hp : joinOk .nils) : ACalls Try.prog 29 [.nils] (.arr 32 (fun j => .int .u8 (L2 std byteAt (std sumX .nils) j))) := by
  obtain ⟨p, hpp⟩ : ∃ p, p = padZ (joinZ .nils) := ⟨_, rfl⟩
  obtain ⟨m, hm⟩ : ∃ m, m = shaH p (p.length / 64) := ⟨_, rfl⟩
  have hlen : p.length % 64 = 0 ∧ 64 ≤ p.length := by rw [hpp]; exact ⟨(padZ_len _).1, (padZ_len _).2.1⟩
  refine acalls_L (T := tt) (S := fun L => sumOf [join_s L, whole_s L, first_s L, keys_s L, mix_s L, put_s L]) (lo := fun L => smA L m) (lb := fun L => smB L p) 5 (fn := Try.f29) rfl rfl (by kernel_rfl) (by kernel_rfl) rfl tt_ok (sumOf_ok ⟨join_good, whole_good, first_good, keys_good, mix_good, put_good, trivial⟩) (by kernel_rfl) ?_
  obtain ⟨n0, hn0⟩ : ∃ n : Nat, n = 0 := ⟨_, rfl⟩
  intro L P' Q' hL hP hQ
  obtain ⟨q0, hq0⟩ : ∃ n : Nat, n = 0 := ⟨_, rfl⟩
  (cbv; try simp only [sat_need, sat_must, sat_ite, sat_done, sat_yes, sat_ex, sat_all, sat_sup, sat_and, sat_fail, true_and, and_true])
  refine ⟨fun k hk => ?_, ?_⟩
  · obtain ⟨k', hk'⟩ : ∃ k' : Nat, k' = k + 1 := ⟨_, rfl⟩
    (cbv; try simp only [sat_need, sat_must, sat_ite, sat_done, sat_yes, sat_ex, sat_all, sat_sup, sat_and, sat_fail, true_and, and_true])
    refine ⟨?_, ⟨⟨?_, ?_⟩, ?_, fun h1 => ⟨k', ?_⟩, fun h1 => ⟨⟨q0, ?_⟩, fun q hq => ?_⟩⟩⟩
    · subst hL; exact blk_room hk
    · subst hL; exact ⟨rfl, fun j hj => rfl⟩
    · subst hL; exact blk_len hk
    · subst hL; exact blk_room hk
    · (cbv; try simp only [sat_need, sat_must, sat_ite, sat_done, sat_yes, sat_ex, sat_all, sat_sup, sat_and, sat_fail, true_and, and_true])
      subst hL; subst hQ
      simp only [L2, std] at h1 ⊢
      rw [blk_drop hk'] at h1 ⊢
      rw [sha_next hk', eight (shaH_len _ _)]
      refine ⟨fun _ _ _ _ => trivial, fun _ _ _ _ => rfl, fun _ _ _ _ => trivial, rfl, blk_more hlen.1 hk' (seq_no h1), ?_⟩
      have hk : 64 * (k + 1) ≤ p.length := hk
      show p.length - k' + 1 ≤ p.length - k
      omega
    · (cbv; try simp only [sat_need, sat_must, sat_ite, sat_done, sat_yes, sat_ex, sat_all, sat_sup, sat_and, sat_fail, true_and, and_true])
      subst hL; subst hQ
      simp only [L2, std] at h1 ⊢
      rw [blk_drop hk'] at h1
      rw [sha_next hk', eight (shaH_len _ _)]
      have hm : m = shaH p k' := by rw [hm, ← blk_all hk hk' (seq_yes h1)]
      rw [← hm]
      subst hq0
      refine ⟨fun _ _ _ _ => trivial, fun i j hi hj => ?_, rfl, rfl, rfl, rfl, rfl, rfl, rfl, rfl, rfl, by decide⟩
      have : j = 0 := by omega
      subst this; rfl
    · obtain ⟨q', hq'⟩ : ∃ q' : Nat, q' = q + 1 := ⟨_, rfl⟩
      have hm8 : m.length = 8 := by rw [hm]; exact shaH_len _ _
      (cbv; try simp only [sat_need, sat_must, sat_ite, sat_done, sat_yes, sat_ex, sat_all, sat_sup, sat_and, sat_fail, true_and, and_true])
      refine ⟨fun h2 => ⟨?_, ?_, ?_, ?_, q', ?_⟩, fun h2 => ?_⟩
      · subst hL; exact inR_nat (lt_of_ilt h2)
      · subst hL; exact out_in (lt_of_ilt h2)
      · subst hL; exact out_put _
      · subst hL; exact out_room (lt_of_ilt h2)
      · (cbv; try simp only [sat_need, sat_must, sat_ite, sat_done, sat_yes, sat_ex, sat_all, sat_sup, sat_and, sat_fail, true_and, and_true])
        subst hL; subst hQ
        have h8 : q < 8 := lt_of_ilt h2
        have ek : (natI q).toNat = q := Int.toNat_natCast q
        simp only [L2, L3, std, ek]
        rw [eight hm8]
        refine ⟨fun _ _ _ _ => trivial, fun i j hi hj => out_set hq' h8 i, ?_, ?_, ?_⟩
        · exact natI_up hq' (by omega)
        · show q' ≤ 8
          omega
        · show 8 - q' + 1 ≤ 8 - q
          omega
      · subst hL; subst hQ
        have hq8 : q = 8 := by
          have : ¬ q < 8 := ge_of_ilt h2
          have : q ≤ 8 := hq
          omega
        subst hq8
        rw [fits_arr]
        intro j hj
        simp only [L2, std, sumX, sumZ]
        rw [← hpp, ← hm]
  · (cbv; try simp only [sat_need, sat_must, sat_ite, sat_done, sat_yes, sat_ex, sat_all, sat_sup, sat_and, sat_fail, true_and, and_true])
    refine ⟨?_, ?_, n0, ?_⟩
    · subst hL; exact hp
    · subst hL; exact Nat.zero_le _
    · (cbv; try simp only [sat_need, sat_must, sat_ite, sat_done, sat_yes, sat_ex, sat_all, sat_sup, sat_and, sat_fail, true_and, and_true])
      subst hL; subst hQ
      refine ⟨fun _ _ _ _ => trivial, fun i j hi hj => ?_, fun _ _ _ _ => trivial, ?_, ?_⟩
      · subst hn0; rfl
      · subst hn0; exact hpp.symm
      · subst hn0
        show 64 * (0 + 1) ≤ p.length
        omega
theorem join_cases {x : AV} (hp : joinOk x) : x = .nils ∨ ∃ n get, x = .lst 1 n get := by
  unfold joinOk at hp
  split at hp
  · exact .inr ⟨_, _, rfl⟩
  · exact .inl rfl
  · exact hp.elim
theorem sum_good : Good Try.prog (sum_s std) := by
  intro xs p r h hp
  dsimp only [sum_s] at h ⊢
  split at h <;> cases h
  try simp only [L2, L3, std] at hp ⊢
  rename_i x
  rcases join_cases hp with rfl | ⟨n, get, rfl⟩
  · exact sum_nil hp
  · exact sum_lst hp
def text_s (L : Seal) : Ent1 := (30, fun xs => match xs with | [x] => some (L joinOk x, .str (L sumX x)) | _ => none)
theorem sumX_len (x : AV) : (sumX x).length = 32 := sumZ_len _
theorem text_str (x : AV) : bytesOf 32 (fun i => (AV.int .u8 (byteAt (sumX x) (0 + i))).toI) = sumX x := by
  have := bytesOf_at (sumX x)
  rw [sumX_len] at this
  simp only [Nat.zero_add]
  exact this
theorem text_good : Good Try.prog (text_s std) := by
  intro xs p r h hp
  dsimp only [text_s] at h ⊢
  split at h <;> cases h
  try simp only [L2, L3, std] at hp ⊢
  rename_i x
  have hp : joinOk x := hp
  rcases join_cases hp with rfl | ⟨n, get, rfl⟩
  · refine acalls_L (T := tt) (S := fun L => sumOf [sum_s L]) (lo := noA) (lb := noA) 5 (fn := Try.f30) rfl rfl (by kernel_rfl) (by kernel_rfl) rfl tt_ok (sumOf_ok ⟨sum_good, trivial⟩) (by kernel_rfl) ?_
    (intro L P1 Q1 hL hP hQ; cbv; subst hL; simp only [L2, L3, std, sat_need, sat_must, sat_ite, sat_done, sat_yes, sat_ex, sat_all, sat_sup, sat_and, sat_fail]; subst hQ)
    refine ⟨hp, trivial, ⟨show 0 + 32 ≤ 32 by decide, fun i _ => ⟨_, rfl⟩⟩, ?_⟩
    rw [text_str, fits_str]
  · refine acalls_L (T := tt) (S := fun L => sumOf [sum_s L]) (lo := noA) (lb := noA) 5 (fn := Try.f30) rfl rfl (by kernel_rfl) (by kernel_rfl) rfl tt_ok (sumOf_ok ⟨sum_good, trivial⟩) (by kernel_rfl) ?_
    (intro L P1 Q1 hL hP hQ; cbv; subst hL; simp only [L2, L3, std, sat_need, sat_must, sat_ite, sat_done, sat_yes, sat_ex, sat_all, sat_sup, sat_and, sat_fail]; subst hQ)
    refine ⟨hp, trivial, ⟨show 0 + 32 ≤ 32 by decide, fun i _ => ⟨_, rfl⟩⟩, ?_⟩
    rw [text_str, fits_str]
def prtZ (s : List UInt8) : List UInt8 := sumZ (padZ s)
def p16 (L : Seal) (l : List UInt8) : AV := .agg [.int .u8 (L2 L byteAt l 0), .int .u8 (L2 L byteAt l 1), .int .u8 (L2 L byteAt l 2), .int .u8 (L2 L byteAt l 3), .int .u8 (L2 L byteAt l 4), .int .u8 (L2 L byteAt l 5), .int .u8 (L2 L byteAt l 6), .int .u8 (L2 L byteAt l 7), .int .u8 (L2 L byteAt l 8), .int .u8 (L2 L byteAt l 9), .int .u8 (L2 L byteAt l 10), .int .u8 (L2 L byteAt l 11), .int .u8 (L2 L byteAt l 12), .int .u8 (L2 L byteAt l 13), .int .u8 (L2 L byteAt l 14), .int .u8 (L2 L byteAt l 15)]
def print_s (L : Seal) : Ent1 := (32, fun xs => match xs with | [.str s] => some (L2 L upto 1000000 s, p16 L (L prtZ s)) | _ => none)
theorem fits_16 (f : Nat → Int) (l : List UInt8) (h : ∀ j, j < 16 → f j = byteAt l j) : fits (p16 std l) (.agg [.int .u8 (nthI [f 0, f 1, f 2, f 3, f 4, f 5, f 6, f 7, f 8, f 9, f 10, f 11, f 12, f 13, f 14, f 15] 0),
    .int .u8 (nthI [f 0, f 1, f 2, f 3, f 4, f 5, f 6, f 7, f 8, f 9, f 10, f 11, f 12, f 13, f 14, f 15] 1),
    .int .u8 (nthI [f 0, f 1, f 2, f 3, f 4, f 5, f 6, f 7, f 8, f 9, f 10, f 11, f 12, f 13, f 14, f 15] 2),
    .int .u8 (nthI [f 0, f 1, f 2, f 3, f 4, f 5, f 6, f 7, f 8, f 9, f 10, f 11, f 12, f 13, f 14, f 15] 3),
    .int .u8 (nthI [f 0, f 1, f 2, f 3, f 4, f 5, f 6, f 7, f 8, f 9, f 10, f 11, f 12, f 13, f 14, f 15] 4),
    .int .u8 (nthI [f 0, f 1, f 2, f 3, f 4, f 5, f 6, f 7, f 8, f 9, f 10, f 11, f 12, f 13, f 14, f 15] 5),
    .int .u8 (nthI [f 0, f 1, f 2, f 3, f 4, f 5, f 6, f 7, f 8, f 9, f 10, f 11, f 12, f 13, f 14, f 15] 6),
    .int .u8 (nthI [f 0, f 1, f 2, f 3, f 4, f 5, f 6, f 7, f 8, f 9, f 10, f 11, f 12, f 13, f 14, f 15] 7),
    .int .u8 (nthI [f 0, f 1, f 2, f 3, f 4, f 5, f 6, f 7, f 8, f 9, f 10, f 11, f 12, f 13, f 14, f 15] 8),
    .int .u8 (nthI [f 0, f 1, f 2, f 3, f 4, f 5, f 6, f 7, f 8, f 9, f 10, f 11, f 12, f 13, f 14, f 15] 9),
    .int .u8 (nthI [f 0, f 1, f 2, f 3, f 4, f 5, f 6, f 7, f 8, f 9, f 10, f 11, f 12, f 13, f 14, f 15] 10),
    .int .u8 (nthI [f 0, f 1, f 2, f 3, f 4, f 5, f 6, f 7, f 8, f 9, f 10, f 11, f 12, f 13, f 14, f 15] 11),
    .int .u8 (nthI [f 0, f 1, f 2, f 3, f 4, f 5, f 6, f 7, f 8, f 9, f 10, f 11, f 12, f 13, f 14, f 15] 12),
    .int .u8 (nthI [f 0, f 1, f 2, f 3, f 4, f 5, f 6, f 7, f 8, f 9, f 10, f 11, f 12, f 13, f 14, f 15] 13),
    .int .u8 (nthI [f 0, f 1, f 2, f 3, f 4, f 5, f 6, f 7, f 8, f 9, f 10, f 11, f 12, f 13, f 14, f 15] 14),
    .int .u8 (nthI [f 0, f 1, f 2, f 3, f 4, f 5, f 6, f 7, f 8, f 9, f 10, f 11, f 12, f 13, f 14, f 15] 15)]) := by
  unfold p16
  simp only [sySet, L2, std]
  exact ⟨h 0 (by decide), h 1 (by decide), h 2 (by decide), h 3 (by decide), h 4 (by decide), h 5 (by decide), h 6 (by decide), h 7 (by decide), h 8 (by decide), h 9 (by decide), h 10 (by decide), h 11 (by decide), h 12 (by decide), h 13 (by decide), h 14 (by decide), h 15 (by decide), trivial⟩
theorem sumX_one (s : List UInt8) : sumX (.lst 1 1 fun i _ => .str (nthS [s] (Nat.add 0 i))) = prtZ s := by
  have e : joinZ (.lst 1 1 fun i _ => .str (nthS [s] (Nat.add 0 i))) = s := by
    show s ++ [] = s
    exact List.append_nil s
  rw [sumX, e, prtZ]
theorem join_one (s : List UInt8) (h : s.length ≤ 1000000) : joinOk (.lst 1 1 fun i _ => .str (nthS [s] (Nat.add 0 i))) := by
  refine ⟨fun i _ => ⟨_, rfl⟩, by decide, ?_⟩
  show (s ++ []).length ≤ 1000000
  rw [List.append_nil]; exact h
theorem prtZ_len (s : List UInt8) : (prtZ s).length = 32 := sumZ_len _
theorem prt_take (s : List UInt8) : ∀ j, j < 16 → byteAt (List.take (Int.toNat 16) (prtZ s)) (Nat.add 0 j) = byteAt (prtZ s) j := by
  intro j hj
  rw [show Nat.add 0 j = j from Nat.zero_add j, byteAt, byteAt, List.getD_eq_getElem?_getD, List.getD_eq_getElem?_getD, List.getElem?_take_of_lt (by show j < 16; omega)]
theorem print_good : Good Try.prog (print_s std) := by
  intro xs p r h hp
  dsimp only [print_s] at h ⊢
  split at h <;> cases h
  try simp only [L2, L3, std] at hp ⊢
  rename_i s
  have hl : s.length ≤ 1000000 := hp
  refine acalls_L (T := tt) (S := fun L => sumOf [text_s L]) (lo := noA) (lb := noA) 5 (fn := Try.f32) rfl rfl (by kernel_rfl) (by kernel_rfl) rfl tt_ok (sumOf_ok ⟨text_good, trivial⟩) (by kernel_rfl) ?_
  (intro L P1 Q1 hL hP hQ; cbv; subst hL; simp only [L2, L3, std, sat_need, sat_must, sat_ite, sat_done, sat_yes, sat_ex, sat_all, sat_sup, sat_and, sat_fail]; subst hQ)
  rw [sumX_one]
  refine ⟨join_one s hl, ?_, ?_, fits_16 (fun j => byteAt (List.take (Int.toNat 16) (prtZ s)) (Nat.add 0 j)) _ (prt_take s)⟩
  · rw [inC_t, slen, prtZ_len]
    decide
  · rw [nble_eq, lenN, List.length_take, prtZ_len]
    decide
end Sy
end Go.Proofs.Ythlggigjnpldcaa
