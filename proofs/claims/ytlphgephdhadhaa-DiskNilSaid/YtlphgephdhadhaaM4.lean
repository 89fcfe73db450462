/-DERIVED: THE SHELF's CONTRACTS AT THIS DUMP, IN PLAIN WORDS (tools/lay-plain.mjs out of 'TryIter.lean', which tools/lay-shelf; and what stands between these and the texts behind.-/
import Derived.Shelf.SlIter.Nil
import Derived.Shelf.SortM.Plain
import Derived.Shelf.SortM.SortNone
import Derived.Shelf.SlMaps.Clone
import Derived.Ground.GgzProg
import Derived.Ground.SlgmProg
import Derived.Ground.SlmcProg
import Derived.Test.YtlphgephdhadhaaProg
import Derived.Test.YtlphgephdhadhaaM3
import Derived.Test.YtlphgephdhadhaaShelf
import Derived.ChangeArms
import Derived.ChangeSlices
import Derived.OpenShut
import Derived.WideShapes
namespace Go.Proofs
open Go.Shelf
def Try.keys27_ren : Go.Shelf.Ren := ⟨fun | 7 => 27 | 10 => 48 | n => n, fun | 23 => 41 | 26 => 9 | 3 => 47 | 28 => 54 | 0 => 0 | 27 => 53 | 33 => 63 | 4 => 4 | n => n, fun | n => n⟩
theorem Try.keys27 : Go.Proofs.SlLaysZ.n7 Try.prog Try.keys27_ren := {
 mixed := by kernel_rfl
 f7 := ⟨Try.f27.name, by decide, Try.func27.trans (congrArg some (by kernel_rfl))⟩
 f10 := ⟨Try.f48.name, by decide, Try.func48.trans (congrArg some (by kernel_rfl))⟩
 t0 := Try.underlying0
 a0 := Try.isAgg0
 z0 := Try.sizeOf0
 v0 := Try.zeroValue0
 t4 := Try.underlying4
 a4 := Try.isAgg4
 z4 := Try.sizeOf4
 v4 := Try.zeroValue4
 t23 := Try.underlying41
 a23 := Try.isAgg41
 z23 := Try.sizeOf41
 v23 := Try.zeroValue41
 t26 := Try.underlying9
 a26 := Try.isAgg9
 z26 := Try.sizeOf9
 v26 := Try.zeroValue9
 t27 := Try.underlying53
 a27 := Try.isAgg53
 z27 := Try.sizeOf53
 v27 := Try.zeroValue53
 t28 := Try.underlying54
 a28 := Try.isAgg54
 z28 := Try.sizeOf54
 v28 := Try.zeroValue54
 t33 := Try.underlying63
 a33 := Try.isAgg63
 z33 := Try.sizeOf63
 v33 := Try.zeroValue63 }
def Try.sorted26_ren : Go.Shelf.Ren := ⟨fun | 6 => 26 | 8 => 46 | 9 => 47 | 11 => 58 | 13 => 60 | 12 => 59 | 23 => 78 | 24 => 79 | 14 => 69 | 15 => 70 | 16 => 71 | 17 => 72 | 18 => 73 | 19 => 74 | 20 => 75 | 21 => 76 | 22 => 77 | 25 => 88 | 26 => 89 | 27 => 90 | 28 => 91 | 29 => 92 | 30 => 93 | 31 => 100 | n => n, fun | 26 => 9 | 28 => 54 | 24 => 32 | 0 => 0 | 3 => 3 | 37 => 71 | 48 => 79 | 50 => 56 | 4 => 4 | 40 => 95 | 39 => 94 | 45 => 99 | 5 => 5 | 9 => 9 | 51 => 118 | 55 => 122 | 57 => 127 | 58 => 128 | 33 => 63 | n => n, fun | n => n⟩
theorem Try.sorted26 : Go.Proofs.SlLaysZ.n6 Try.prog Try.sorted26_ren := {
 mixed := by kernel_rfl
 f6 := ⟨Try.f26.name, by decide, Try.func26.trans (congrArg some (by kernel_rfl))⟩
 f8 := ⟨Try.f46.name, by decide, Try.func46.trans (congrArg some (by kernel_rfl))⟩
 f11 := ⟨Try.f58.name, by decide, Try.func58.trans (congrArg some (by kernel_rfl))⟩
 t0 := Try.underlying0
 a0 := Try.isAgg0
 z0 := Try.sizeOf0
 v0 := Try.zeroValue0
 t24 := Try.underlying32
 a24 := Try.isAgg32
 z24 := Try.sizeOf32
 v24 := Try.zeroValue32
 t26 := Try.underlying9
 a26 := Try.isAgg9
 z26 := Try.sizeOf9
 v26 := Try.zeroValue9
 t28 := Try.underlying54
 a28 := Try.isAgg54
 z28 := Try.sizeOf54
 v28 := Try.zeroValue54
 i26 := by kernel_rfl }
def Try.sort47_ren : Go.Shelf.Ren := ⟨fun | 6 => 47 | 8 => 60 | 9 => 59 | 19 => 78 | 20 => 79 | 21 => 69 | 22 => 70 | 23 => 71 | 24 => 72 | 25 => 73 | 26 => 74 | 27 => 75 | 28 => 76 | 29 => 77 | 36 => 88 | 31 => 89 | 32 => 90 | 37 => 91 | 38 => 92 | 39 => 93 | 41 => 100 | n => n, fun | 27 => 32 | 29 => 9 | 3 => 3 | 32 => 71 | 26 => 32 | 0 => 0 | 44 => 79 | 46 => 56 | 4 => 4 | 36 => 95 | 35 => 94 | 41 => 99 | 5 => 5 | 9 => 9 | 53 => 118 | 57 => 122 | 63 => 127 | 64 => 128 | n => n, fun | n => n⟩
theorem Try.sort47 : Go.Proofs.SlLaysM.n6 Try.prog Try.sort47_ren := {
 mixed := by kernel_rfl
 f6 := ⟨Try.f47.name, by decide, Try.func47.trans (congrArg some (by kernel_rfl))⟩
 f8 := Try.func60.trans (congrArg some (by kernel_rfl))
 f9 := ⟨Try.f59.name, by decide, Try.func59.trans (congrArg some (by kernel_rfl))⟩
 f19 := Try.func78.trans (congrArg some (by kernel_rfl))
 f20 := Try.func79.trans (congrArg some (by kernel_rfl))
 f21 := ⟨Try.f69.name, by decide, Try.func69.trans (congrArg some (by kernel_rfl))⟩
 f22 := ⟨Try.f70.name, by decide, Try.func70.trans (congrArg some (by kernel_rfl))⟩
 f23 := ⟨Try.f71.name, by decide, Try.func71.trans (congrArg some (by kernel_rfl))⟩
 f24 := ⟨Try.f72.name, by decide, Try.func72.trans (congrArg some (by kernel_rfl))⟩
 f25 := ⟨Try.f73.name, by decide, Try.func73.trans (congrArg some (by kernel_rfl))⟩
 f26 := ⟨Try.f74.name, by decide, Try.func74.trans (congrArg some (by kernel_rfl))⟩
 f27 := ⟨Try.f75.name, by decide, Try.func75.trans (congrArg some (by kernel_rfl))⟩
 f28 := ⟨Try.f76.name, by decide, Try.func76.trans (congrArg some (by kernel_rfl))⟩
 f29 := ⟨Try.f77.name, by decide, Try.func77.trans (congrArg some (by kernel_rfl))⟩
 f31 := Try.func89.trans (congrArg some (by kernel_rfl))
 f32 := Try.func90.trans (congrArg some (by kernel_rfl))
 f36 := ⟨Try.f88.name, by decide, Try.func88.trans (congrArg some (by kernel_rfl))⟩
 f37 := ⟨Try.f91.name, by decide, Try.func91.trans (congrArg some (by kernel_rfl))⟩
 f38 := ⟨Try.f92.name, by decide, Try.func92.trans (congrArg some (by kernel_rfl))⟩
 f39 := ⟨Try.f93.name, by decide, Try.func93.trans (congrArg some (by kernel_rfl))⟩
 f41 := ⟨Try.f100.name, by decide, Try.func100.trans (congrArg some (by kernel_rfl))⟩
 t0 := Try.underlying0
 a0 := Try.isAgg0
 z0 := Try.sizeOf0
 v0 := Try.zeroValue0
 t3 := Try.underlying3
 a3 := Try.isAgg3
 z3 := Try.sizeOf3
 v3 := Try.zeroValue3
 t4 := Try.underlying4
 a4 := Try.isAgg4
 z4 := Try.sizeOf4
 v4 := Try.zeroValue4
 t5 := Try.underlying5
 a5 := Try.isAgg5
 z5 := Try.sizeOf5
 v5 := Try.zeroValue5
 t9 := Try.underlying9
 a9 := Try.isAgg9
 z9 := Try.sizeOf9
 v9 := Try.zeroValue9
 t26 := Try.underlying32
 a26 := Try.isAgg32
 z26 := Try.sizeOf32
 v26 := Try.zeroValue32
 t27 := Try.underlying32
 a27 := Try.isAgg32
 z27 := Try.sizeOf32
 v27 := Try.zeroValue32
 t29 := Try.underlying9
 a29 := Try.isAgg9
 z29 := Try.sizeOf9
 v29 := Try.zeroValue9
 t32 := Try.underlying71
 a32 := Try.isAgg71
 z32 := Try.sizeOf71
 v32 := Try.zeroValue71
 t35 := Try.underlying94
 a35 := Try.isAgg94
 z35 := Try.sizeOf94
 v35 := Try.zeroValue94
 t36 := Try.underlying95
 a36 := Try.isAgg95
 z36 := Try.sizeOf95
 v36 := Try.zeroValue95
 t41 := Try.underlying99
 a41 := Try.isAgg99
 z41 := Try.sizeOf99
 v41 := Try.zeroValue99
 t44 := Try.underlying79
 a44 := Try.isAgg79
 z44 := Try.sizeOf79
 v44 := Try.zeroValue79
 t46 := Try.underlying56
 a46 := Try.isAgg56
 z46 := Try.sizeOf56
 v46 := Try.zeroValue56
 t53 := Try.underlying118
 a53 := Try.isAgg118
 z53 := Try.sizeOf118
 v53 := Try.zeroValue118
 t57 := Try.underlying122
 a57 := Try.isAgg122
 z57 := Try.sizeOf122
 v57 := Try.zeroValue122
 t63 := Try.underlying127
 a63 := Try.isAgg127
 z63 := Try.sizeOf127
 v63 := Try.zeroValue127
 t64 := Try.underlying128
 a64 := Try.isAgg128
 z64 := Try.sizeOf128
 v64 := Try.zeroValue128 }
def Try.clone29_ren : Go.Shelf.Ren := ⟨fun | 5 => 29 | 7 => 49 | n => n, fun | 23 => 41 | 25 => 9 | 3 => 47 | 4 => 4 | 20 => 20 | n => n, fun | n => n⟩
theorem Try.clone29 : Go.Proofs.SlLaysW.n5 Try.prog Try.clone29_ren := {
 mixed := by kernel_rfl
 f5 := ⟨Try.f29.name, by decide, Try.func29.trans (congrArg some (by kernel_rfl))⟩
 f7 := Try.func49.trans (congrArg some (by kernel_rfl))
 t4 := Try.underlying4
 a4 := Try.isAgg4
 z4 := Try.sizeOf4
 v4 := Try.zeroValue4
 t20 := Try.underlying20
 a20 := Try.isAgg20
 z20 := Try.sizeOf20
 v20 := Try.zeroValue20
 t23 := Try.underlying41
 a23 := Try.isAgg41
 z23 := Try.sizeOf41
 v23 := Try.zeroValue41 }
end Go.Proofs
namespace Go.Proofs.Ytlphgephdhadhaa
open Go Go.RowKit
open Go.WideElems (Fit rd rg rg_of)
open Go.Maps
theorem zrt (m : Nat) : AnyZ.SortsIn Try.prog Try.sorted26_ren Fence.wide m :=
 ⟨fun blk off cap ss W hH hblk hsz => callsIn_wide.2 (AnyM.slices_Sort_string Try.sort47 blk off cap ss W hH hblk hsz),
  fun p cap W => callsIn_wide.2 (AnyM.slices_Sort_string_none Try.sort47 p cap W)⟩
def zyp (_ : Value) : Option (DataW Unit × List MemPlace) := some (.lit (.bool true), [])
set_option maxHeartbeats 1000000 in
theorem zub (w : World) (Bm b clock : Nat) (x : MapEntry) (s : ByteArray) (hB : Bm < w.heap.size) (hc : w.cell? ⟨Bm, 0, none⟩ = some (.map (some b))) (hb : w.heap[b]? = some (.map #[x] clock)) (hst : MapKept.Stamped #[x] clock)
   (hk : x.key = .string s) (hs : s.size <= 1000) :
   Calls Try.prog 26 #[.func (.func 48) #[] #[.pointer (some ⟨Bm, 0, none⟩)]] w fun e w' => ∃ v, e = .returned v /\ w'.ownsRow w.heap.size 9 1 v 1 [.string s] /\ Below w.heap.size w w' := by
 have hrd : rd Try.prog 9 zyp x = some (.string s.data.toList, .lit (.bool true)) := by
   have hl : s.size <= maxLen := Nat.le_trans hs (by decide)
   simp [rd, zyp, Go.keyOf, hk, mapKey, Try.underlying9, hl]
 have hown : w.ownsMap Try.prog 9 zyp b 1 (.map [(.string s.data.toList, .lit (.bool true))]) := by
   refine ⟨#[x], clock, hb, ⟨(show 1 <= maxLen by decide), hst, fun y hy => ?_⟩, by simp, ?_⟩
   · simp at hy; subst hy; exact ⟨_, hrd⟩
   · simp [rg_of hrd, DataW.insert]
 have hseq := AnyZ.keys_gives (ρ := Try.keys27_ren) (F := Fence.wide) (n := 2) { Try.keys27 with } trivial rfl (by omega) Bm b 1 _ w hB hc hown
 refine (callsIn_wide.1 (AnyZ.sorted_in Try.sorted26 Fence.wide 5 trivial trivial trivial trivial rfl (by omega) (zrt _) (enters_of Try.func47 (by kernel_rfl) rfl) 48 _ trivial (enters_of Try.func48 (by kernel_rfl) rfl) _ 1 (by decide) (by omega) w hseq)).mono ?_
 rintro e w' ⟨v, ss, rfl, hS, hrow, -, hB⟩
 have : ss = [s.data.toList] := by simpa [strKeys, strOf] using hS
 subst this
 have hrow := hrow
 simp [encStr] at hrow
 exact ⟨v, rfl, hrow, hB⟩
namespace Sy
theorem zer {P : Program} {f : FuncId} {fn : Func} {c : Code} {vs : Array Value} {w : World} {Q : Ending -> World -> Prop} (hf : P.funcs[f]? = some fn) (hb : fn.body = some c) (hn : (fn.name == "runtime.NumGoroutine") = false) (h : Calls P f vs w Q) : ze3 P f vs w Q := by
 unfold ze3
 rw [zc4 hf hn hb]
 exact h
theorem zfz {D D' : Nat -> Prop} {w w' : World} {μ : Mu} {O : List (Nat × Ob)} {r : AV} {v : Value} (hD : ∀ b, D b -> b < w.heap.size)
   (hdom : ∀ n, μ n = none ↔ za1 O n = none) (hobs : ∀ n o x, za1 O n = some o -> μ n = some x -> ze2 w.heap D μ o x)
   (hinj : ∀ n n' b z z', μ n = some (some (b, z)) -> μ n' = some (some (b, z')) -> n = n') (hown : ∀ n b z, μ n = some (some (b, z)) -> b < w.heap.size /\ ¬ D b)
   (B : Below w.heap.size w w') (up : ∀ b, D b -> D' b) (dn : ∀ b, D' b -> D b \/ (w.heap.size <= b /\ b < w'.heap.size)) (rv : R w'.heap D' μ r v) : zw3 D w μ O O r (.returned v) v w' D' μ :=
 { ret := rfl, os := B.os, tape := B.tape, output := B.output, size := B.size, old := fun b hb _ => B.block b hb, up := up,
   dn := fun b hb => (dn b hb).elim .inl (fun h => .inr (.inl h)), dom := hdom,
   obs := fun n o x ho hx => (hobs n o x ho hx).mono (fun b hb => B.block b (hD b hb)) up (fun _ _ h => h) (fun b z e _ => by subst e; exact B.block b (hown n b z hx).1),
   inj := hinj,
   own := fun n b z h => ⟨Nat.lt_of_lt_of_le (hown n b z h).1 B.size, fun hb => (dn b hb).elim (hown n b z h).2 (fun h2 => absurd (hown n b z h).1 (by omega)), .inr ⟨n, z, h⟩⟩,
   keep := fun _ _ _ => rfl, val := rv }
theorem zsi {D : Nat -> Prop} {w w' : World} {μ : Mu} {O : List (Nat × Ob)} {r : AV} {v : Value} (id : Nat) (o : Ob) (z : Nat × Nat) (hD : ∀ b, D b -> b < w.heap.size) (hid : za1 O id = none)
   (hdom : ∀ n, μ n = none ↔ za1 O n = none) (hobs : ∀ n o x, za1 O n = some o -> μ n = some x -> ze2 w.heap D μ o x)
   (hinj : ∀ n n' b z z', μ n = some (some (b, z)) -> μ n' = some (some (b, z')) -> n = n') (hown : ∀ n b z, μ n = some (some (b, z)) -> b < w.heap.size /\ ¬ D b)
   (B : Below w.heap.size w w') (hlt : w.heap.size < w'.heap.size)
   (ok : ze2 w'.heap D (fun n => if n = id then some (some (w.heap.size, z)) else μ n) o (some (w.heap.size, z)))
   (rv : R w'.heap D (fun n => if n = id then some (some (w.heap.size, z)) else μ n) r v) :
   zw3 D w μ O (zb0 O [(id, o)]) r (.returned v) v w' D (fun n => if n = id then some (some (w.heap.size, z)) else μ n) := by
 have hμ : μ id = none := (hdom id).2 hid
 have hm : ∀ n x, μ n = some x -> (if n = id then some (some (w.heap.size, z)) else μ n) = some x := fun n x h => by
   rw [if_neg (by rintro rfl; rw [hμ] at h; cases h)]; exact h
 have ha : ∀ n, za1 (zb0 O [(id, o)]) n = if n = id then some o else za1 O n := fun n => by
   rw [zci]
   by_cases e : n = id
   · subst e; rw [hid, if_pos rfl]; simp [za1, za3]
   · rw [if_neg e]
     cases za1 O n with
     | some _ => rfl
     | none => simp [za1, za6 (fun h => e h.symm)]
 refine { ret := rfl, os := B.os, tape := B.tape, output := B.output, size := B.size, old := fun b hb _ => B.block b hb, up := fun _ h => h, dn := fun b hb => .inl hb, dom := fun n => ?_, obs := fun n o' x ho hx => ?_, inj := fun n n' b z1 z2 h1 h2 => ?_, own := fun n b z1 h => ?_, keep := fun n h _ => ?_, val := rv }
 · rw [ha]
   by_cases e : n = id
   · simp [e]
   · simp only [if_neg e]; exact hdom n
 · rw [ha] at ho
   by_cases e : n = id
   · simp only [if_pos e] at ho hx
     cases ho; cases hx
     exact ok
   · simp only [if_neg e] at ho hx
     exact (hobs n o' x ho hx).mono (fun b hb => B.block b (hD b hb)) (fun _ h => h) hm (fun b z e _ => by subst e; exact B.block b (hown n b z hx).1)
 · by_cases e : n = id <;> by_cases e' : n' = id
   · rw [e, e']
   · simp only [if_pos e, if_neg e'] at h1 h2
     cases h1
     exact absurd (hown n' _ _ h2).1 (by omega)
   · simp only [if_neg e, if_pos e'] at h1 h2
     cases h2
     exact absurd (hown n _ _ h1).1 (by omega)
   · simp only [if_neg e, if_neg e'] at h1 h2
     exact hinj n n' b z1 z2 h1 h2
 · by_cases e : n = id
   · simp only [if_pos e] at h
     cases h
     exact ⟨hlt, fun hb => absurd (hD _ hb) (by omega), .inl (Nat.le_refl _)⟩
   · simp only [if_neg e] at h
     exact ⟨Nat.lt_of_lt_of_le (hown n b z1 h).1 B.size, (hown n b z1 h).2, .inr ⟨n, z1, h⟩⟩
 · exact if_neg (fun e => h (by rw [e]; exact hid))
end Sy
end Go.Proofs.Ytlphgephdhadhaa
namespace Go.Proofs.Ytlphgephdhadhaa
namespace Sy
open Go Go.RowKit
set_option maxRecDepth 100000
set_option linter.unusedSimpArgs false
set_option linter.unusedVariables false
def zti (x s : List UInt8) : List (Nat × Ob) := [(500001, .mapl .s [(.s nmA, .ref 500003 0)]), (500003, zbm x s)]
theorem zht {h : Array Obj} {D : Nat -> Prop} {μ : Mu} {x : AV} {vs : Array Value} (hr : RL h D μ [x] vs) : ∃ v, vs = #[v] /\ R h D μ x v := by
 obtain ⟨hl, hr⟩ := hr
 obtain ⟨a, ha⟩ : ∃ a, vs.toList = [a] := List.length_eq_one_iff.1 (by simpa using hl.symm)
 have : vs = #[a] := by rw [<- Array.toArray_toList (xs := vs), ha]
 subst this
 exact ⟨a, rfl, hr 0 x a rfl rfl⟩
theorem ziv {h : Array Obj} {D : Nat -> Prop} {μ : Mu} {b z m : Nat} {v : AV} (k : ze2 h D μ (.mapl .s [(.s nmA, v)]) (some (b, z, m))) :
   ∃ x clock s, h[b]? = some (.map #[x] clock) /\ MapKept.Stamped #[x] clock /\ x.key = .string s /\ s.data.toList = nmA /\ R h D μ v x.val := by
 obtain ⟨es, clock, kf, hb, hn, hks, hnd, hr⟩ := k
 have hn : es.size = 1 := hn
 obtain ⟨x, rfl⟩ : ∃ x, es = #[x] := ⟨es[0], by
   apply Array.ext
   · simpa using hn
   · intro i h1 h2
     have : i = 0 := by simp at h2; exact h2
     subst this; rfl⟩
 obtain ⟨y, hy, ry⟩ := hr 0 x rfl
 obtain ⟨k1, k2⟩ := hks.key 0 x rfl
 obtain ⟨s, k3, k4⟩ := k1
 have hkf : kf 0 = .s nmA /\ y = v := by
   simp only [zao] at hy
   split at hy
   · rename_i h; exact ⟨(zg4 h).symm, by cases hy; rfl⟩
   · cases hy
 obtain ⟨h1, rfl⟩ := hkf
 rw [h1] at k4
 exact ⟨x, clock, s, hb, hks.st, k3, (Ky.s.inj k4).symm, ry⟩
def zfi : zgn := (29, fun raw ob => match raw with
 | [.mp n] => match ob n with
   | some (.mapl _ [(_, .ref i _)]) => some ⟨[.mp 500001], zti (zas (ob i)).1 (zas (ob i)).2, True, .mp 600000, zb0 (zti (zas (ob i)).1 (zas (ob i)).2) [(600000, .mapl .s [(.s nmA, .ref 500003 0)])]⟩
   | _ => none
 | _ => none)
theorem zgf : zdi Try.prog zfi := by
 intro raw ob T hT hp
 unfold zfi at hT
 simp only at hT
 repeat' split at hT
 all_goals first | (cases hT; done) | skip
 cases hT
 intro D w μ vs hD hxs hdom hobs hinj hown hg hgb
 obtain ⟨v, rfl, r1⟩ := zht hxs
 cases r1 with
 | mp _ b z m hμ =>
   obtain ⟨es, clock, kf, hb, hn, hks, hnd, hr⟩ := hobs 500001 _ _ rfl hμ
   refine zer (fn := Try.f29) rfl rfl (by kernel_rfl) ((AnyW.maps_Clone Try.clone29 b es clock w hb).mono ?_)
   rintro e w' ⟨rfl, rfl⟩
   have B : Below w.heap.size w (w.alloc (.map es clock)) := (Below.refl _ w).alloc (Nat.le_refl _) _
   have hm : ∀ n x, μ n = some x -> (if n = 600000 then some (some (w.heap.size, (0, 0))) else μ n) = some x := fun n x h => by
     rw [if_neg (by rintro rfl; rw [(hdom 600000).2 rfl] at h; cases h)]; exact h
   refine ⟨_, D, _, zsi 600000 _ (0, 0) hD rfl hdom hobs hinj hown B (by show w.heap.size < (w.heap.push _).size; simp) ⟨es, clock, kf, heap_alloc_new _ _, hn, hks, hnd, fun i x hx => ?_⟩ (.mp _ w.heap.size 0 0 (if_pos rfl))⟩
   obtain ⟨y, h1, h2⟩ := hr i x hx
   exact ⟨y, h1, h2.mono (fun b hb => B.block b (hD b hb)) (fun _ h => h) hm⟩
def seqO (x s : List UInt8) : List (Nat × Ob) := [(500010, .box 41 [.mp 500001]), (500001, .mapl .s [(.s nmA, .ref 500003 0)]), (500003, zbm x s)]
def zfd : zgn := (26, fun raw ob => match raw with
 | [.fn _ [] [.ref c _]] => match ob c with
   | some (.box _ [.mp n]) => match ob n with
     | some (.mapl _ [(_, .ref i _)]) => some ⟨[.fn 48 [] [.ref 500010 0]], seqO (zas (ob i)).1 (zas (ob i)).2, True, .lst 1 1 (fun _ _ => .str nmA), seqO (zas (ob i)).1 (zas (ob i)).2⟩
     | _ => none
   | _ => none
 | _ => none)
theorem zfo : zdi Try.prog zfd := by
 intro raw ob T hT hp
 unfold zfd at hT
 simp only at hT
 repeat' split at hT
 all_goals first | (cases hT; done) | skip
 cases hT
 intro D w μ vs hD hxs hdom hobs hinj hown hg hgb
 obtain ⟨v, rfl, r1⟩ := zht hxs
 cases r1 with
 | fn _ _ _ us1 us2 e1 e2 h1 h2 =>
   obtain ⟨u, hu⟩ : ∃ u, us2.toList = [u] := List.length_eq_one_iff.1 (by simpa using e2.symm)
   have : us2 = #[u] := by rw [<- Array.toArray_toList (xs := us2), hu]
   subst this
   have : us1 = #[] := by
     apply Array.eq_empty_of_size_eq_zero
     simpa using e1.symm
   subst this
   have r2 : R w.heap D μ (.ref 500010 0) u := h2 0 _ u rfl rfl
   cases r2 with
   | ref _ _ b z m hμ =>
     obtain ⟨C, t, fr, hb, hz, hf, ho, hC⟩ := hobs 500010 _ _ rfl hμ
     obtain ⟨v0, rfl, r3⟩ := zht hC
     cases r3 with
     | mp _ bm zm mm hμm =>
       obtain ⟨x, clock, s, hbm, hst, hk, hs, rx⟩ := ziv (hobs 500001 _ _ rfl hμm)
       have hss : s.size = 1 := by
         have := congrArg List.length hs
         simpa [nmA] using this
       refine zer (fn := Try.f26) rfl rfl (by kernel_rfl) ((zub w b bm clock x s (hown _ _ _ hμ).1 (by rw [zeq]; simp [zaj hb]) hbm hst hk (by omega)).mono ?_)
       rintro e w' ⟨v, rfl, ⟨-, hrow⟩, B⟩
       rcases hrow with ⟨-, h0⟩ | ⟨g, cap, cur, rfl, hg0, hgb, hc1, hc2, hc3, hc4⟩
       · cases h0
       have hcur : cur[0]? = some (.string s) := by
         have := congrArg (fun l => l[0]?) hc4
         simpa using this
       have hlt : g < w'.heap.size := (Array.getElem?_eq_some_iff.1 hgb).1
       refine ⟨_, fun b => D b \/ b = g, μ, zfz hD hdom hobs hinj hown B (fun b h => .inl h) (fun b h => h.elim .inl (fun e => .inr (by subst e; exact ⟨hg0, hlt⟩))) (.lst 1 1 _ g 0 cap (fun _ _ => .string s) (.inr rfl) hc1 (fun i j hi hj => ?_) (fun i j hi hj => rfl) (fun i j hi hj => .str _ s hs))⟩
       have : i = 0 := by omega
       subst this
       have : j = 0 := by omega
       subst this
       rw [zaj hgb]
       exact hcur
def zbc (a : List UInt8) : Prop := a.length <= 1000
def zon (L : zah) : zeb := (50, fun xs => match xs with | [.str a] => some (L zbc a, .str a) | _ => none)
def zrv (L : zah) : zeb := (35, fun xs => match xs with | [.str a] => some (L zbc a, .str a) | _ => none)
theorem zoo : zgl Try.prog (zon std) := by
 intro xs p r h hp
 dsimp only [zon] at h |-
 split at h <;> cases h
 try simp only [L2, L3, std] at hp |-
 rename_i a
 have h1 : a.length <= 1000 := hp
 exact zl5 (fn := Try.f50) rfl rfl (by kernel_rfl) (zzh (zog _)) (fun h D => zyd h D zat _) (fun w => Try.stringslite_Clone ⟨a.toArray⟩ w (by show a.toArray.size <= _; rw [List.size_toArray]; omega))
theorem zlc : zgl Try.prog (zrv std) := by
 intro xs p r h hp
 dsimp only [zrv] at h |-
 split at h <;> cases h
 try simp only [L2, L3, std] at hp |-
 rename_i a
 have h1 : zbc a := hp
 refine zal (T := tt) (S := fun L => zdh [zon L]) (lo := noA) (lb := noA) 5 (fn := Try.f35) rfl rfl (by kernel_rfl) (by kernel_rfl) rfl zb4 (zau ⟨zoo, trivial⟩) (by kernel_rfl) ?_
 (intro L P1 Q1 hL hP hQ; cbv; subst hL; simp only [L2, L3, std, syT]; subst hQ)
 (simp only [syS, reduceCtorEq, Int.reduceToNat, Int.reduceAdd, Int.reduceSub])
 exact h1
def zsg (a : List UInt8) : Bool := !decide (a = []) && decide (a.length <= 32)
def zln (L : zah) : zeb := (32, fun xs => match xs with | [.str a] => some (L zbc a, .bool (L zsg a)) | _ => none)
theorem zix : zgl Try.prog (zln std) := by
 intro xs p r h hp
 dsimp only [zln] at h |-
 split at h <;> cases h
 try simp only [L2, L3, std] at hp |-
 rename_i a
 have h1 : a.length <= 1000 := hp
 refine zal (T := tt) (S := noS) (lo := noA) (lb := noA) 5 (fn := Try.f32) rfl rfl (by kernel_rfl) (by kernel_rfl) rfl zb4 (zwz _) (by kernel_rfl) ?_
 (intro L P1 Q1 hL hP hQ; cbv; subst hL; simp only [L2, L3, std, syT]; subst hQ)
 (simp only [syS, reduceCtorEq, Int.reduceToNat, Int.reduceAdd, Int.reduceSub])
 refine ⟨fun h => ?_, fun h => ?_⟩
 · unfold zsg
   rw [decide_eq_false h]
   unfold ile
   simp
   omega
 · subst h; rfl
def zel (s : List UInt8) (i q : Nat) : Int := if q < i then zmn s q else 0
def zyu (L : zah) (s : List UInt8) : Nat -> St -> Option Ann := fun id st => match id with
 | 0 => some ⟨Nat, fun i => [(27, .int .i64 (L zan i))], fun i => [(24, .row 5 1 (L zxx s) (fun q _ => .int .u8 (L3 L zel s i q)))], [0, 1, 6, 26], [500003],
     fun i => L2 L (fun (s : List UInt8) i => i <= s.length) s i, fun i => L2 L (fun (s : List UInt8) (i : Nat) => s.length - i) s i⟩
 | _ => none
theorem zra (s : List UInt8) : zbk s.length (fun k => zmn s k) = s := by
 apply List.ext_getElem
 · simp [zbk]
 · intro i h1 h2
   simp [zbk, zmn, h2]
theorem shr0 (k : IntKind) (b : Int) : zxt k 0 b = 0 := by unfold zxt; simp
theorem zwm {i : Nat} (h : i <= 1000) : ile 0 (Int.tmod (zy5 .i64 (zan i) 64) 63) = true := by
 have e1 : (zan i).tdiv 64 = ((i / 64 : Nat) : Int) := by
   unfold zan
   exact (Int.ofNat_tdiv i 64).symm
 unfold zy5
 rw [zig, e1]
 have e2 : ((i / 64 : Nat) : Int) + 9223372036854775808 < 18446744073709551616 := by omega
 rw [Int.emod_eq_of_lt (by omega) e2]
 unfold ile
 rw [decide_eq_true_eq]
 exact Int.tmod_nonneg _ (by omega)
def zpz (L : zah) : zgn := (28, fun raw ob => match raw with
 | [.ref i 0, .int .u64 _] => some ⟨[.ref 500003 0, .int .u64 0], [(500003, zbm (zas (ob i)).1 (zas (ob i)).2)], L zbc (zas (ob i)).2, .str (zas (ob i)).2, [(500003, zbm (zas (ob i)).1 (zas (ob i)).2)]⟩
 | _ => none)
theorem zuz (x s : List UInt8) (hs : zbc s) : zba Try.prog 28 [.ref 500003 0, .int .u64 0] [(500003, zbm x s)] (.str s) [(500003, zbm x s)] := by
 have hs : s.length <= 1000 := hs
 refine zav (T := tt) (S := fun L => zbq [] []) (lo := fun L => zyu L s) (lb := noA) 8 (fn := Try.f28) (xs := fun L => [.ref 500003 0, .int .u64 0]) (rts := fun _ => [.str s]) (O := fun L => [(500003, zbm x s)]) (O1 := fun L => [(500003, zbm x s)])
   rfl rfl (by kernel_rfl) (by kernel_rfl) (by kernel_rfl) zb4 (zac trivial trivial) (by kernel_rfl) ?_
 intro L P' Q' hL hP hQ
 (cbv; try simp only [syT, true_and, and_true])
 refine ⟨?_, fun h1 => ?_, fun h1 => ⟨?_, ⟨0, ?_⟩, fun i hi => ?_⟩⟩
 · subst hL; decide
 · exfalso
   subst hL
   revert h1
   simp only [std, L2]
   decide
 · subst hL
   show zx1 1 (slen s) (slen s) = true
   rw [ztn]
   unfold slen
   omega
 · (cbv; try simp only [syT, true_and, and_true])
   subst hL
   refine ⟨⟨rfl, fun a b ha hb => ?_⟩, rfl, Nat.zero_le _⟩
   have : b = 0 := by omega
   subst this
   simp [zbs, L3, std, zel]
 · (cbv; try simp only [syT, true_and, and_true])
   refine ⟨fun h2 => ⟨?_, ?_, ?_, fun h3 => ?_, fun h3 => ⟨fun h4 => ⟨?_, ?_, ⟨i + 1, ?_⟩⟩, fun h4 => ?_⟩⟩, fun h2 => ?_⟩
   · subst hL; decide
   · subst hL; decide
   · subst hL
     have hi : i <= s.length := hi
     exact zwm (by omega)
   · exfalso
     subst hL
     revert h3
     simp only [std, shr0]
     decide
   · subst hL
     have h4 : ilt (zan i) (slen s) = true := h4
     rw [zfb] at h4
     show inR (zan i) (slen s) = true
     rw [zq4]
     exact ⟨Int.natCast_nonneg _, h4⟩
   · subst hL
     have h4 : ilt (zan i) (slen s) = true := h4
     rw [zfb] at h4
     show inR (zan i) (zan (Int.toNat (slen s))) = true
     rw [zq4]
     exact ⟨Int.natCast_nonneg _, h4⟩
   · (cbv; try simp only [syT, true_and, and_true])
     subst hL
     have hi : i <= s.length := hi
     have h4 : ilt (zan i) (slen s) = true := h4
     rw [zfb] at h4
     have h4 : (i : Int) < (s.length : Int) := h4
     refine ⟨fun a b ha hb => ?_, ?_, ?_, ?_⟩
     · refine (zyn _ .u8 _ (zel s i) a b hb).trans (congrArg (AV.int .u8) ?_)
       show (if a = 0 + (zan i).toNat then zmn s (zan i) else zel s i a) = zel s (i + 1) a
       have e1 : 0 + (zan i).toNat = i := by unfold zan; omega
       rw [e1]
       unfold zel
       by_cases e : a = i
       · subst e
         rw [if_pos rfl, if_pos (by omega)]; rfl
       · rw [if_neg e]
         by_cases e2 : a < i
         · rw [if_pos e2, if_pos (by omega)]
         · rw [if_neg e2, if_neg (by omega)]
     · show zl6 .i64 (zan i) 1 = zan (i + 1)
       unfold zl6 zan
       rw [zig]
       omega
     · show i + 1 <= s.length
       omega
     · show s.length - (i + 1) < s.length - i
       omega
   · exfalso
     subst hL
     have h2 : ilt (zan i) (zan (Int.toNat (slen s))) = true := h2
     have h4 : ilt (zan i) (slen s) = false := h4
     have e : zan (Int.toNat (slen s)) = slen s := by unfold zan slen; omega
     rw [e, h4] at h2
     cases h2
   · subst hL
     have hi : i <= s.length := hi
     have h2 : ilt (zan i) (zan (Int.toNat (slen s))) = false := h2
     rw [zq7] at h2
     have e : i = s.length := by unfold zan slen at h2; omega
     subst e
     refine ⟨⟨?_, fun k _ => ⟨_, rfl⟩⟩, ?_⟩
     · show 0 + s.length <= s.length
       omega
     · show zbk s.length (fun k => zel s s.length (0 + k)) = s
       refine Eq.trans ?_ (zra s)
       unfold zbk
       refine List.map_congr_left fun k hk => ?_
       have hk : k < s.length := by simpa using hk
       show UInt8.ofNat (zel s s.length (0 + k)).toNat = UInt8.ofNat (zmn s k).toNat
       unfold zel
       rw [if_pos (by omega), Nat.zero_add]
theorem zq0 : zdi Try.prog (zpz std) := by
 intro raw ob T hT hp
 unfold zpz at hT
 simp only at hT
 repeat' split at hT
 all_goals first | (cases hT; done) | (cases hT; exact zuz _ _ hp)
def DkS.used (L : zah) : DkS -> Int
 | .c _ x _ => L slen x
 | _ => 0
def DkS.usable : DkS -> Prop
 | .a _ => True
 | .c _ x _ => zbc x
 | _ => False
def zl7 (L : zah) : zgn := (15, fun raw ob => match raw with
 | [.ref id 0] => match zqn ob id with
   | some sh => some ⟨[.ref 500000 0], dkO 500005 sh, L DkS.usable sh, .int .i64 (sh.used L), dkO 500005 sh⟩
   | _ => none
 | _ => none)
theorem zih : zdi Try.prog (zl7 std) := by
 intro raw ob T hT hp
 unfold zl7 at hT
 simp only at hT
 repeat' split at hT
 all_goals first | (cases hT; done) | skip
 rename_i sh hsh
 cases hT
 intro D w μ vs hD hxs hdom hobs hinj hown hg hgb
 obtain ⟨v, rfl, r1⟩ := zht hxs
 cases r1 with
 | ref _ _ b z m hμ =>
   cases sh with
   | b k x s => exact hp.elim
   | d k x s y t => exact hp.elim
   | a k =>
     obtain ⟨C, t, fr, hb, hz, hf, ho, hC1, hC2⟩ := hobs 500000 _ _ rfl hμ
     obtain ⟨v1, hv1⟩ : ∃ v1, C[1]? = some v1 := ⟨C[1]'(by rw [<- hC1]; simp), by simp⟩
     have r2 : R w.heap D μ (.mp 500001) v1 := hC2 1 _ v1 rfl hv1
     cases r2 with
     | mp _ bm zm mm hμm =>
       obtain ⟨es, clock, kf, hbm, hn, hks, hnd, hr⟩ := hobs 500001 _ _ rfl hμm
       have hes : es = #[] := Array.eq_empty_of_size_eq_zero hn
       subst hes
       refine zer (fn := Try.f15) rfl rfl (by kernel_rfl) ((zyb w b bm clock (by rw [zeq, zaj hb]; exact hv1) hbm).mono ?_)
       rintro e w' ⟨rfl, B⟩
       exact ⟨_, D, μ, zfz hD hdom hobs hinj hown B (fun b h => h) (fun b h => .inl h) (.int _ _)⟩
   | c k x s =>
     obtain ⟨C, t, fr, hb, hz, hf, ho, hC1, hC2⟩ := hobs 500000 _ _ rfl hμ
     obtain ⟨v1, hv1⟩ : ∃ v1, C[1]? = some v1 := ⟨C[1]'(by rw [<- hC1]; simp), by simp⟩
     have r2 : R w.heap D μ (.mp 500001) v1 := hC2 1 _ v1 rfl hv1
     cases r2 with
     | mp _ bm zm mm hμm =>
       obtain ⟨e, clock, s1, hbm, hst, hk, hs, rx⟩ := ziv (hobs 500001 _ _ rfl hμm)
       generalize hev : e.val = ev at rx
       cases rx with
       | ref _ _ bn zn mn hμn =>
         obtain ⟨C', t', fr', hb', hz', hf', ho', hC1', hC2'⟩ := hobs 500003 _ _ rfl hμn
         obtain ⟨v2, hv2⟩ : ∃ v2, C'[0]? = some v2 := ⟨C'[0]'(by rw [<- hC1']; simp), by simp⟩
         have r3 : R w.heap D μ (.str x) v2 := hC2' 0 _ v2 rfl hv2
         obtain ⟨s2, rfl, hs2⟩ := r3.inv_str
         have hsh : x.length <= 1000 := hp
         have hsz : s2.size = x.length := by rw [<- hs2]; simp
         refine zer (fn := Try.f15) rfl rfl (by kernel_rfl) ((zya w b bm bn clock e s2 (by rw [zeq, zaj hb]; exact hv1) hbm hst hev (by rw [zeq, zaj hb']; exact hv2)).mono ?_)
         rintro e w' ⟨rfl, B⟩
         have he : wrap64 (s2.size : Int) = slen x := by
           unfold wrap64 slen
           omega
         rw [he]
         exact ⟨_, D, μ, zfz hD hdom hobs hinj hown B (fun b h => h) (fun b h => .inl h) (.int _ _)⟩
def wrO (L : zah) (x : List UInt8) : DkS -> List (Nat × Ob)
 | .a k => [(500000, zku (.sl 17 4 0 1) (L inc k)), (500001, .mapl .s [(.s nmA, .ref 64 0)]), (500002, .mapl .s []), (64, zbm x []), (17, zsb nmA)]
 | .c k y s => [(500000, zku (.sl 17 4 0 1) (L inc k)), (500001, .mapl .s [(.s nmA, .ref 500003 0), (.s nmB, .ref 64 0)]), (500002, .mapl .s [(.s nmA, .ref 500003 0)]), (500003, zbm y s), (64, zbm x []), (17, zsb nmB)]
 | _ => []
def zy4 : DkS -> List UInt8
 | .a _ => nmA
 | _ => nmB
def zxu (x : List UInt8) : DkS -> Prop
 | .a k => zbg k /\ x.length <= 50
 | .c k y s => zbg k /\ x.length <= 50 /\ y.length <= 50
 | _ => False
def zjw (L : zah) : zgn := (9, fun raw ob => match raw with
 | [.ref id 0, .str _, .str x] => match zqn ob id with
   | some sh => some ⟨[.ref 500000 0, .str (zy4 sh), .str x], dkO 500005 sh, L2 L zxu x sh, .int .i64 0, wrO L x sh⟩
   | _ => none
 | _ => none)
theorem zty (k : Int) (x : List UInt8) (hk : zbg k) (hx : x.length <= 50) : zba Try.prog 9 [.ref 500000 0, .str nmA, .str x] (dkO 500005 (.a k)) (.int .i64 0) (wrO std x (.a k)) := by
 refine zav (T := tt) (S := fun L => zbq [zrv L, zln L] [zup, zl7 L, zf2 L, zfc]) (lo := noA) (lb := noA) 8 (fn := Try.f9) (xs := fun L => [.ref 500000 0, .str nmA, .str x]) (rts := fun _ => [.int .i64 0]) (O := fun L => dkO 500005 (.a k)) (O1 := fun L => wrO L x (.a k))
   rfl rfl (by kernel_rfl) (by kernel_rfl) (by kernel_rfl) zb4 (zac ⟨zlc, zix, trivial⟩ ⟨zfw, zih, zdz, zfm, trivial⟩) (by kernel_rfl) ?_
 intro L P' Q' hL hP hQ
 (cbv; try simp only [syT, true_and, and_true])
 subst hL
 have e0 : ine 0 0 = false := by decide
 have e1 : zsg [97] = true := by decide
 have e2 : ile 16 (Int.ofNat 0) = false := by decide
 have e3 : ilt 100 (zl6 .i64 (slen x) 0) = false := by
   rw [zq7]
   unfold zl6 slen
   rw [zig]
   omega
 have e4 : zbc x := by unfold zbc; omega
 have e5 : zbc [97] := by unfold zbc; decide
 simp [std, e0, e1, e2, e3, e4, e5, DkS.usable, DkS.k, hk]
 decide
theorem ztx (k : Int) (x y s : List UInt8) (hk : zbg k) (hx : x.length <= 50) (hy : y.length <= 50) : zba Try.prog 9 [.ref 500000 0, .str nmB, .str x] (dkO 500005 (.c k y s)) (.int .i64 0) (wrO std x (.c k y s)) := by
 refine zav (T := tt) (S := fun L => zbq [zrv L, zln L] [zup, zl7 L, zf2 L, zfc]) (lo := noA) (lb := noA) 8 (fn := Try.f9) (xs := fun L => [.ref 500000 0, .str nmB, .str x]) (rts := fun _ => [.int .i64 0]) (O := fun L => dkO 500005 (.c k y s)) (O1 := fun L => wrO L x (.c k y s))
   rfl rfl (by kernel_rfl) (by kernel_rfl) (by kernel_rfl) zb4 (zac ⟨zlc, zix, trivial⟩ ⟨zfw, zih, zdz, zfm, trivial⟩) (by kernel_rfl) ?_
 intro L P' Q' hL hP hQ
 (cbv; try simp only [syT, true_and, and_true])
 subst hL
 have e0 : ine 0 0 = false := by decide
 have e1 : zsg [98] = true := by decide
 have e2 : ile 16 (Int.ofNat 1) = false := by decide
 have e3 : ilt 100 (zl6 .i64 (slen x) (slen y)) = false := by
   rw [zq7]
   unfold zl6 slen
   rw [zig]
   omega
 have e4 : zbc x := by unfold zbc; omega
 have e6 : zbc y := by unfold zbc; omega
 have e5 : zbc [98] := by unfold zbc; decide
 simp [std, e0, e1, e2, e3, e4, e5, e6, DkS.usable, DkS.k, hk]
 decide
theorem zmi : zdi Try.prog (zjw std) := by
 intro raw ob T hT hp
 unfold zjw at hT
 simp only at hT
 repeat' split at hT
 all_goals first | (cases hT; done) | skip
 rename_i x _ sh hsh
 cases hT
 have hp : zxu x sh := hp
 cases sh with
 | a k => exact zty k x hp.1 hp.2
 | b k y s => exact hp.elim
 | c k y s => exact ztx k x y s hp.1 hp.2.1 hp.2.2
 | d k y s z t => exact hp.elim
def zoh (L : zah) : zgn := (10, fun raw ob => match raw with
 | [.ref id 0, .str _] => match zqn ob id with
   | some (.b k x s) => some ⟨[.ref 500000 0, .str nmA], dkO 500005 (.b k x s), L zbg k, .int .i64 0, dkO 500005 (.b (L inc k) x x)⟩
   | _ => none
 | _ => none)
theorem zwi (k : Int) (x s : List UInt8) (hk : zbg k) : zba Try.prog 10 [.ref 500000 0, .str nmA] (dkO 500005 (.b k x s)) (.int .i64 0) (dkO 500005 (.b (inc k) x x)) := by
 refine zav (T := tt) (S := fun L => zbq [] [zhk, zf2 L]) (lo := noA) (lb := noA) 8 (fn := Try.f10) (xs := fun L => [.ref 500000 0, .str nmA]) (rts := fun _ => [.int .i64 0]) (O := fun L => dkO 500005 (.b k x s)) (O1 := fun L => dkO 500005 (.b (L inc k) x x))
   rfl rfl (by kernel_rfl) (by kernel_rfl) (by kernel_rfl) zb4 (zac trivial ⟨zgu, zdz, trivial⟩) (by kernel_rfl) ?_
 intro L P' Q' hL hP hQ
 (cbv; try simp only [syT, true_and, and_true])
 subst hL
 have e0 : ieq 0 0 = true := by decide
 simp [std, e0, DkS.k, hk]
theorem zoi : zdi Try.prog (zoh std) := by
 intro raw ob T hT hp
 unfold zoh at hT
 simp only at hT
 repeat' split at hT
 all_goals first | (cases hT; done) | (cases hT; exact zwi _ _ _ hp)
def sdO (k : Int) (x s : List UInt8) : List (Nat × Ob) := [(500000, zma 500001 18 .nils k), (500001, .mapl .s [(.s nmA, .ref 500003 0)]), (18, .mapl .s [(.s nmA, .ref 500003 0)]), (500003, zbm x s)]
def zol (L : zah) : zgn := (13, fun raw ob => match raw with
 | [.ref id 0] => match zqn ob id with
   | some (.b k x s) => some ⟨[.ref 500000 0], dkO 500005 (.b k x s), L zbg k, .int .i64 0, sdO (L inc k) x s⟩
   | _ => none
 | _ => none)
theorem zwn (k : Int) (x s : List UInt8) (hk : zbg k) : zba Try.prog 13 [.ref 500000 0] (dkO 500005 (.b k x s)) (.int .i64 0) (sdO (inc k) x s) := by
 refine zav (T := tt) (S := fun L => zbq [] [zup, zf2 L, zfi]) (lo := noA) (lb := noA) 8 (fn := Try.f13) (xs := fun L => [.ref 500000 0]) (rts := fun _ => [.int .i64 0]) (O := fun L => dkO 500005 (.b k x s)) (O1 := fun L => sdO (L inc k) x s)
   rfl rfl (by kernel_rfl) (by kernel_rfl) (by kernel_rfl) zb4 (zac trivial ⟨zfw, zdz, zgf, trivial⟩) (by kernel_rfl) ?_
 intro L P' Q' hL hP hQ
 (cbv; try simp only [syT, true_and, and_true])
 subst hL
 have e0 : ieq 0 0 = true := by decide
 simp [std, e0, DkS.k, hk]
theorem zom : zdi Try.prog (zol std) := by
 intro raw ob T hT hp
 unfold zol at hT
 simp only at hT
 repeat' split at hT
 all_goals first | (cases hT; done) | (cases hT; exact zwn _ _ _ hp)
def zpd : zgn := (8, fun raw ob => match raw with
 | [.ref id 0, .str _] => match zqn ob id with
   | some (.c k x s) => some ⟨[.ref 500000 0, .str nmA], dkO 500005 (.c k x s), True, .tup [.str x, .int .i64 0], dkO 500005 (.c k x s)⟩
   | _ => none
 | _ => none)
theorem zwt (k : Int) (x s : List UInt8) : zba Try.prog 8 [.ref 500000 0, .str nmA] (dkO 500005 (.c k x s)) (.tup [.str x, .int .i64 0]) (dkO 500005 (.c k x s)) := by
 refine zav (T := tt) (S := fun L => zbq [] [zhk]) (lo := noA) (lb := noA) 8 (fn := Try.f8) (xs := fun L => [.ref 500000 0, .str nmA]) (rts := fun _ => [.str x, .int .i64 0]) (O := fun L => dkO 500005 (.c k x s)) (O1 := fun L => dkO 500005 (.c k x s))
   rfl rfl (by kernel_rfl) (by kernel_rfl) (by kernel_rfl) zb4 (zac trivial ⟨zgu, trivial⟩) (by kernel_rfl) ?_
 intro L P' Q' hL hP hQ
 (cbv; try simp only [syT, true_and, and_true])
 subst hL
 have e0 : ine 0 0 = false := by decide
 simp [std, e0]
theorem zpe : zdi Try.prog zpd := by
 intro raw ob T hT hp
 unfold zpd at hT
 simp only at hT
 repeat' split at hT
 all_goals first | (cases hT; done) | (cases hT; exact zwt _ _ _)
def zi9 : zgn := (27, fun raw ob => match raw with
 | [.mp n] => match ob n with
   | some (.mapl _ [(_, .ref i _)]) => some ⟨[.mp 500001], zti (zas (ob i)).1 (zas (ob i)).2, True, .fn 48 [] [.ref 1 0], zb0 [(1, .box 41 [.mp 500001])] (zti (zas (ob i)).1 (zas (ob i)).2)⟩
   | _ => none
 | _ => none)
theorem zt8 (x s : List UInt8) : zba Try.prog 27 [.mp 500001] (zti x s) (.fn 48 [] [.ref 1 0]) (zb0 [(1, .box 41 [.mp 500001])] (zti x s)) := by
 refine zav (T := tt) (S := fun L => zbq [] []) (lo := noA) (lb := noA) 8 (fn := Try.f27) (xs := fun L => [.mp 500001]) (rts := fun _ => [.fn 48 [] [.ref 1 0]]) (O := fun L => zti x s) (O1 := fun L => zb0 [(1, .box 41 [.mp 500001])] (zti x s))
   rfl rfl (by kernel_rfl) (by kernel_rfl) (by kernel_rfl) zb4 (zac trivial trivial) (by kernel_rfl) ?_
 intro L P' Q' hL hP hQ
 (cbv; try simp only [syT, true_and, and_true])
theorem zhc : zdi Try.prog zi9 := by
 intro raw ob T hT hp
 unfold zi9 at hT
 simp only at hT
 repeat' split at hT
 all_goals first | (cases hT; done) | (cases hT; exact zt8 _ _)
def zkd : zgn := (14, fun raw ob => match raw with
 | [.ref id 0] => match zqn ob id with
   | some (.c k x s) => some ⟨[.ref 500000 0], dkO 500005 (.c k x s), True, .lst 1 1 (fun _ _ => .str nmA), dkO 500005 (.c k x s)⟩
   | _ => none
 | _ => none)
theorem zus (k : Int) (x s : List UInt8) : zba Try.prog 14 [.ref 500000 0] (dkO 500005 (.c k x s)) (.lst 1 1 (fun _ _ => .str nmA)) (dkO 500005 (.c k x s)) := by
 refine zav (T := tt) (S := fun L => zbq [] [zup, zi9, zfd]) (lo := noA) (lb := noA) 8 (fn := Try.f14) (xs := fun L => [.ref 500000 0]) (rts := fun _ => [.lst 1 1 (fun _ _ => .str nmA)]) (O := fun L => dkO 500005 (.c k x s)) (O1 := fun L => dkO 500005 (.c k x s))
   rfl rfl (by kernel_rfl) (by kernel_rfl) (by kernel_rfl) zb4 (zac trivial ⟨zfw, zhc, zfo, trivial⟩) (by kernel_rfl) ?_
 intro L P' Q' hL hP hQ
 (cbv; try simp only [syT, true_and, and_true])
 subst hL
 have e0 : ine 0 0 = false := by decide
 simp [std, e0]
theorem znh : zdi Try.prog zkd := by
 intro raw ob T hT hp
 unfold zkd at hT
 simp only at hT
 repeat' split at hT
 all_goals first | (cases hT; done) | (cases hT; exact zus _ _ _)
def zpi (x s : List UInt8) (i : Nat) : List UInt8 := if i = 0 then x else s
def isZ (i : Nat) : Bool := decide (i = 0)
def crA (L : zah) (k : Int) (x s y t : List UInt8) : Nat -> St -> Option Ann := fun id st => match id with
 | 0 => some ⟨Nat, fun i => [(21, .int .i64 (L zan i))], fun _ => [], [0, 1, 2, 19, 20], [500000, 500001, 500002, 500003, 500004, 500005], fun i => L (fun i => i <= 1) i, fun i => L (fun (i : Nat) => 1 - i) i⟩
 | 2 => some ⟨Nat, fun i => [(51, .int .i64 (L zan i)), (9, .int .i64 (L zan i))], fun i => [(500000, zku (.sl 500005 4 0 1) k), (500001, .mapl .s [(.s nmA, .ref 500003 0), (.s nmB, .ref 500004 0)]), (500002, .mapl .s [(.s nmA, .ref 500003 0)]), (500003, .box 59 [.str (L3 L zpi x s i), .str s]), (500004, zbm y t), (43, .mapq (L isZ i))], [0, 2, 8, 49, 50], [500005], fun i => L (fun i => i <= 1) i, fun i => L (fun (i : Nat) => 1 - i) i⟩
 | _ => none
def crO (k : Int) (s : List UInt8) : List (Nat × Ob) := [(500000, zma 19 500002 .nils k), (19, .mapl .s [(.s nmA, .ref 500003 0)]), (500002, .mapl .s [(.s nmA, .ref 500003 0)]), (500003, zbm s s)]
def zkv (L : zah) : zgn := (7, fun raw ob => match raw with
 | [.ref id 0, .nils, .nils] => match zqn ob id with
   | some (.d k x s y t) => some ⟨[.ref 500000 0, .nils, .nils], dkO 500005 (.d k x s y t), L zbc s, .tup [], crO k s⟩
   | _ => none
 | _ => none)
theorem zvh (k : Int) (x s y t : List UInt8) (hs : zbc s) : zba Try.prog 7 [.ref 500000 0, .nils, .nils] (dkO 500005 (.d k x s y t)) (.tup []) (crO k s) := by
 refine zav (T := tt) (S := fun L => zbq [] [zxh, zi9, zfd, zpz L, zfi]) (lo := fun L => crA L k x s y t) (lb := noA) 12 (fn := Try.f7) (xs := fun L => [.ref 500000 0, .nils, .nils]) (rts := fun _ => []) (O := fun L => dkO 500005 (.d k x s y t)) (O1 := fun L => crO k s)
   rfl rfl (by kernel_rfl) (by kernel_rfl) (by kernel_rfl) zb4 (zac trivial ⟨zkt, zhc, zfo, zq0, zgf, trivial⟩) (by kernel_rfl) ?_
 intro L P' Q' hL hP hQ
 (cbv; try simp only [syT, true_and, and_true])
 refine ⟨fun h => (by cases h), fun _ => ⟨⟨0, ?_⟩, fun i hi => ?_⟩⟩
 · (cbv; try simp only [syT, true_and, and_true])
   subst hL
   exact ⟨fun _ _ _ _ => trivial, rfl, Nat.zero_le _⟩
 · (cbv; try simp only [syT, true_and, and_true])
   refine ⟨fun h2 => ⟨?_, fun h3 => ?_, fun h3 => ⟨i + 1, ?_⟩⟩, fun h2 => ⟨⟨0, ?_⟩, fun j hj => ?_⟩⟩
   · subst hL
     have h2 : ilt (zan i) (zan 1) = true := h2
     rw [zfb] at h2
     show inR (zan i) (zan 1) = true
     rw [zq4]
     exact ⟨Int.natCast_nonneg _, h2⟩
   · subst hL
     have h3 : ilt (zan i) 0 = true := h3
     rw [zfb] at h3
     unfold zan at h3
     omega
   · (cbv; try simp only [syT, true_and, and_true])
     subst hL
     have hi : i <= 1 := hi
     have h2 : ilt (zan i) (zan 1) = true := h2
     rw [zfb] at h2
     unfold zan at h2
     refine ⟨fun _ _ _ _ => trivial, ?_, ?_, ?_⟩
     · show zl6 .i64 (zan i) 1 = zan (i + 1)
       unfold zl6 zan
       rw [zig]
       omega
     · show i + 1 <= 1
       omega
     · show 1 - (i + 1) < 1 - i
       omega
   · (cbv; try simp only [syT, true_and, and_true])
     subst hL
     exact ⟨fun _ _ _ _ => trivial, fun _ => trivial, rfl, fun _ _ _ _ => trivial, rfl, rfl, Nat.zero_le _⟩
   · (cbv; try simp only [syT, true_and, and_true])
     refine ⟨fun h3 => ⟨?_, ?_, fun h => (by cases h), fun _ => ⟨fun h4 => ?_, fun h4 => ⟨?_, ?_, ⟨j + 1, ?_⟩⟩⟩⟩, fun h3 => ?_⟩
     · subst hL
       have h3 : ilt (zan j) (zan 1) = true := h3
       rw [zfb] at h3
       show inR (zan j) (zan 1) = true
       rw [zq4]
       exact ⟨Int.natCast_nonneg _, h3⟩
     · subst hL
       have h3 : ilt (zan j) (zan 1) = true := h3
       rw [zfb] at h3
       unfold zan at h3
       exact decide_eq_true (show j = 0 by omega)
     · subst hL
       have h4 : ilt (zan j) 0 = true := h4
       rw [zfb] at h4
       unfold zan at h4
       omega
     · subst hL
       exact hs
     · subst hL
       have h3 : ilt (zan j) (zan 1) = true := h3
       rw [zfb] at h3
       unfold zan at h3
       exact decide_eq_true (show j = 0 by omega)
     · (cbv; try simp only [syT, true_and, and_true])
       subst hL
       have hj : j <= 1 := hj
       have h3 : ilt (zan j) (zan 1) = true := h3
       rw [zfb] at h3
       unfold zan at h3
       have ew : zl6 .i64 (zan j) 1 = zan (j + 1) := by
         unfold zl6 zan
         rw [zig]
         omega
       refine ⟨fun _ _ _ _ => trivial, fun h => ?_, ?_, fun _ _ _ _ => trivial, ew, ew, ?_, ?_⟩
       · have h : decide (j + 1 = 0) = true := h
         simp at h
       · show s = zpi x s (j + 1)
         unfold zpi
         rw [if_neg (by omega)]
       · show j + 1 <= 1
         omega
       · show 1 - (j + 1) < 1 - j
         omega
     · subst hL
       have h3 : ilt (zan j) (zan 1) = false := h3
       rw [zq7] at h3
       unfold zan at h3
       show zpi x s j = s
       unfold zpi
       rw [if_neg (by omega)]
theorem znz : zdi Try.prog (zkv std) := by
 intro raw ob T hT hp
 unfold zkv at hT
 simp only at hT
 repeat' split at hT
 all_goals first | (cases hT; done) | (cases hT; exact zvh _ _ _ _ _ hp)
def onN : zeb := (31, fun xs => match xs with | [.nilp] => some (True, .int .i64 1) | _ => none)
theorem zff : zgl Try.prog onN := by
 intro xs p r h hp
 dsimp only [onN] at h |-
 split at h <;> cases h
 try simp only [L2, L3, std] at hp |-
 refine zal (T := tt) (S := fun L => zdh []) (lo := noA) (lb := noA) 5 (fn := Try.f31) rfl rfl (by kernel_rfl) (by kernel_rfl) rfl zb4 (zau trivial) (by kernel_rfl) ?_
 (intro L P1 Q1 hL hP hQ; cbv; subst hL; simp only [L2, L3, std, syT]; subst hQ)
 (simp only [syS, reduceCtorEq, Int.reduceToNat, Int.reduceAdd, Int.reduceSub])
 all_goals first | done | exact ⟨fun _ => by simp [za8, zax, zak, zay.add, zcm], by decide⟩ | exact ⟨fun _ => by simp [ze1, za8, zax, zak, zay.add, zcm], by decide⟩ | exact ⟨fun h => absurd h (by decide), fun h => ⟨fun h1 => absurd h1 (by decide), fun _ => rfl⟩⟩ | decide | exact fun h => absurd h (by decide) | exact fun h => absurd h.symm (by decide) | skip
def zgv : zeb := (30, fun xs => match xs with | [.nilp, .str _] => some (True, .tup [.nilp, .int .i64 1]) | _ => none)
theorem zd4 : zgl Try.prog zgv := by
 intro xs p r h hp
 dsimp only [zgv] at h |-
 split at h <;> cases h
 try simp only [L2, L3, std] at hp |-
 refine zal (T := tt) (S := fun L => zdh [onN]) (lo := noA) (lb := noA) 5 (fn := Try.f30) rfl rfl (by kernel_rfl) (by kernel_rfl) rfl zb4 (zau ⟨zff, trivial⟩) (by kernel_rfl) ?_
 (intro L P1 Q1 hL hP hQ; cbv; subst hL; simp only [L2, L3, std, syT]; subst hQ)
 (simp only [syS, reduceCtorEq, Int.reduceToNat, Int.reduceAdd, Int.reduceSub])
 all_goals first | done | exact ⟨fun _ => by simp [za8, zax, zak, zay.add, zcm], by decide⟩ | exact ⟨fun _ => by simp [ze1, za8, zax, zak, zay.add, zcm], by decide⟩ | exact ⟨fun h => absurd h (by decide), fun h => ⟨fun h1 => absurd h1 (by decide), fun _ => rfl⟩⟩ | decide | exact fun h => absurd h (by decide) | exact fun h => absurd h.symm (by decide) | skip
def zvb : zeb := (6, fun xs => match xs with | [.nilp, .int .i64 _] => some (True, .tup []) | _ => none)
theorem znr : zgl Try.prog zvb := by
 intro xs p r h hp
 dsimp only [zvb] at h |-
 split at h <;> cases h
 try simp only [L2, L3, std] at hp |-
 refine zal (T := tt) (S := fun L => zdh []) (lo := noA) (lb := noA) 5 (fn := Try.f6) rfl rfl (by kernel_rfl) (by kernel_rfl) rfl zb4 (zau trivial) (by kernel_rfl) ?_
 (intro L P1 Q1 hL hP hQ; cbv; subst hL; simp only [L2, L3, std, syT]; subst hQ)
 (simp only [syS, reduceCtorEq, Int.reduceToNat, Int.reduceAdd, Int.reduceSub])
 all_goals first | done | exact ⟨fun _ => by simp [za8, zax, zak, zay.add, zcm], by decide⟩ | exact ⟨fun _ => by simp [ze1, za8, zax, zak, zay.add, zcm], by decide⟩ | exact ⟨fun h => absurd h (by decide), fun h => ⟨fun h1 => absurd h1 (by decide), fun _ => rfl⟩⟩ | decide | exact fun h => absurd h (by decide) | exact fun h => absurd h.symm (by decide) | skip
def zqo : zeb := (7, fun xs => match xs with | [.nilp, .nils, .nils] => some (True, .tup []) | _ => none)
theorem zkw : zgl Try.prog zqo := by
 intro xs p r h hp
 dsimp only [zqo] at h |-
 split at h <;> cases h
 try simp only [L2, L3, std] at hp |-
 refine zal (T := tt) (S := fun L => zdh []) (lo := noA) (lb := noA) 5 (fn := Try.f7) rfl rfl (by kernel_rfl) (by kernel_rfl) rfl zb4 (zau trivial) (by kernel_rfl) ?_
 (intro L P1 Q1 hL hP hQ; cbv; subst hL; simp only [L2, L3, std, syT]; subst hQ)
 (simp only [syS, reduceCtorEq, Int.reduceToNat, Int.reduceAdd, Int.reduceSub])
 all_goals first | done | exact ⟨fun _ => by simp [za8, zax, zak, zay.add, zcm], by decide⟩ | exact ⟨fun _ => by simp [ze1, za8, zax, zak, zay.add, zcm], by decide⟩ | exact ⟨fun h => absurd h (by decide), fun h => ⟨fun h1 => absurd h1 (by decide), fun _ => rfl⟩⟩ | decide | exact fun h => absurd h (by decide) | exact fun h => absurd h.symm (by decide) | skip
def zuo : zeb := (8, fun xs => match xs with | [.nilp, .str _] => some (True, .tup [.str [], .int .i64 1]) | _ => none)
theorem znd : zgl Try.prog zuo := by
 intro xs p r h hp
 dsimp only [zuo] at h |-
 split at h <;> cases h
 try simp only [L2, L3, std] at hp |-
 refine zal (T := tt) (S := fun L => zdh [zgv]) (lo := noA) (lb := noA) 5 (fn := Try.f8) rfl rfl (by kernel_rfl) (by kernel_rfl) rfl zb4 (zau ⟨zd4, trivial⟩) (by kernel_rfl) ?_
 (intro L P1 Q1 hL hP hQ; cbv; subst hL; simp only [L2, L3, std, syT]; subst hQ)
 (simp only [syS, reduceCtorEq, Int.reduceToNat, Int.reduceAdd, Int.reduceSub])
 all_goals first | done | exact ⟨fun _ => by simp [za8, zax, zak, zay.add, zcm], by decide⟩ | exact ⟨fun _ => by simp [ze1, za8, zax, zak, zay.add, zcm], by decide⟩ | exact ⟨fun h => absurd h (by decide), fun h => ⟨fun h1 => absurd h1 (by decide), fun _ => rfl⟩⟩ | decide | exact fun h => absurd h (by decide) | exact fun h => absurd h.symm (by decide) | skip
def zo7 : zeb := (9, fun xs => match xs with | [.nilp, .str _, .str _] => some (True, .int .i64 1) | _ => none)
theorem zjx : zgl Try.prog zo7 := by
 intro xs p r h hp
 dsimp only [zo7] at h |-
 split at h <;> cases h
 try simp only [L2, L3, std] at hp |-
 refine zal (T := tt) (S := fun L => zdh [onN]) (lo := noA) (lb := noA) 5 (fn := Try.f9) rfl rfl (by kernel_rfl) (by kernel_rfl) rfl zb4 (zau ⟨zff, trivial⟩) (by kernel_rfl) ?_
 (intro L P1 Q1 hL hP hQ; cbv; subst hL; simp only [L2, L3, std, syT]; subst hQ)
 (simp only [syS, reduceCtorEq, Int.reduceToNat, Int.reduceAdd, Int.reduceSub])
 all_goals first | done | exact ⟨fun _ => by simp [za8, zax, zak, zay.add, zcm], by decide⟩ | exact ⟨fun _ => by simp [ze1, za8, zax, zak, zay.add, zcm], by decide⟩ | exact ⟨fun h => absurd h (by decide), fun h => ⟨fun h1 => absurd h1 (by decide), fun _ => rfl⟩⟩ | decide | exact fun h => absurd h (by decide) | exact fun h => absurd h.symm (by decide) | skip
def zu5 : zeb := (10, fun xs => match xs with | [.nilp, .str _] => some (True, .int .i64 1) | _ => none)
theorem zmm : zgl Try.prog zu5 := by
 intro xs p r h hp
 dsimp only [zu5] at h |-
 split at h <;> cases h
 try simp only [L2, L3, std] at hp |-
 refine zal (T := tt) (S := fun L => zdh [zgv]) (lo := noA) (lb := noA) 5 (fn := Try.f10) rfl rfl (by kernel_rfl) (by kernel_rfl) rfl zb4 (zau ⟨zd4, trivial⟩) (by kernel_rfl) ?_
 (intro L P1 Q1 hL hP hQ; cbv; subst hL; simp only [L2, L3, std, syT]; subst hQ)
 (simp only [syS, reduceCtorEq, Int.reduceToNat, Int.reduceAdd, Int.reduceSub])
 all_goals first | done | exact ⟨fun _ => by simp [za8, zax, zak, zay.add, zcm], by decide⟩ | exact ⟨fun _ => by simp [ze1, za8, zax, zak, zay.add, zcm], by decide⟩ | exact ⟨fun h => absurd h (by decide), fun h => ⟨fun h1 => absurd h1 (by decide), fun _ => rfl⟩⟩ | decide | exact fun h => absurd h (by decide) | exact fun h => absurd h.symm (by decide) | skip
def ztl : zeb := (32, fun _ => some (False, .dead))
theorem zkb : zgl Try.prog ztl := fun xs p r h hp => by cases h; exact hp.elim
def ztk : zeb := (33, fun _ => some (False, .dead))
theorem zka : zgl Try.prog ztk := fun xs p r h hp => by cases h; exact hp.elim
def zll : zeb := (34, fun _ => some (False, .dead))
theorem zhu : zgl Try.prog zll := fun xs p r h hp => by cases h; exact hp.elim
def zk5 : zeb := (11, fun xs => match xs with | [.nilp, .str _, .str _] => some (True, .int .i64 1) | _ => none)
theorem zio : zgl Try.prog zk5 := by
 intro xs p r h hp
 dsimp only [zk5] at h |-
 split at h <;> cases h
 try simp only [L2, L3, std] at hp |-
 refine zal (T := tt) (S := fun L => zdh [zgv, ztl, ztk, zll]) (lo := noA) (lb := noA) 5 (fn := Try.f11) rfl rfl (by kernel_rfl) (by kernel_rfl) rfl zb4 (zau ⟨zd4, zkb, zka, zhu, trivial⟩) (by kernel_rfl) ?_
 (intro L P1 Q1 hL hP hQ; cbv; subst hL; simp only [L2, L3, std, syT]; subst hQ)
 (simp only [syS, reduceCtorEq, Int.reduceToNat, Int.reduceAdd, Int.reduceSub])
 exact ⟨fun h => absurd h (by decide), fun _ h => absurd h (by decide)⟩
def zk6 : zeb := (12, fun xs => match xs with | [.nilp, .str _] => some (True, .int .i64 1) | _ => none)
theorem ziq : zgl Try.prog zk6 := by
 intro xs p r h hp
 dsimp only [zk6] at h |-
 split at h <;> cases h
 try simp only [L2, L3, std] at hp |-
 refine zal (T := tt) (S := fun L => zdh [zgv]) (lo := noA) (lb := noA) 5 (fn := Try.f12) rfl rfl (by kernel_rfl) (by kernel_rfl) rfl zb4 (zau ⟨zd4, trivial⟩) (by kernel_rfl) ?_
 (intro L P1 Q1 hL hP hQ; cbv; subst hL; simp only [L2, L3, std, syT]; subst hQ)
 (simp only [syS, reduceCtorEq, Int.reduceToNat, Int.reduceAdd, Int.reduceSub])
 all_goals first | done | exact ⟨fun _ => by simp [za8, zax, zak, zay.add, zcm], by decide⟩ | exact ⟨fun _ => by simp [ze1, za8, zax, zak, zay.add, zcm], by decide⟩ | exact ⟨fun h => absurd h (by decide), fun h => ⟨fun h1 => absurd h1 (by decide), fun _ => rfl⟩⟩ | decide | exact fun h => absurd h (by decide) | exact fun h => absurd h.symm (by decide) | skip
def zuf : zeb := (13, fun xs => match xs with | [.nilp] => some (True, .int .i64 1) | _ => none)
theorem zmp : zgl Try.prog zuf := by
 intro xs p r h hp
 dsimp only [zuf] at h |-
 split at h <;> cases h
 try simp only [L2, L3, std] at hp |-
 refine zal (T := tt) (S := fun L => zdh [onN]) (lo := noA) (lb := noA) 5 (fn := Try.f13) rfl rfl (by kernel_rfl) (by kernel_rfl) rfl zb4 (zau ⟨zff, trivial⟩) (by kernel_rfl) ?_
 (intro L P1 Q1 hL hP hQ; cbv; subst hL; simp only [L2, L3, std, syT]; subst hQ)
 (simp only [syS, reduceCtorEq, Int.reduceToNat, Int.reduceAdd, Int.reduceSub])
 all_goals first | done | exact ⟨fun _ => by simp [za8, zax, zak, zay.add, zcm], by decide⟩ | exact ⟨fun _ => by simp [ze1, za8, zax, zak, zay.add, zcm], by decide⟩ | exact ⟨fun h => absurd h (by decide), fun h => ⟨fun h1 => absurd h1 (by decide), fun _ => rfl⟩⟩ | decide | exact fun h => absurd h (by decide) | exact fun h => absurd h.symm (by decide) | skip
def zpk : zeb := (14, fun xs => match xs with | [.nilp] => some (True, .nils) | _ => none)
theorem zke : zgl Try.prog zpk := by
 intro xs p r h hp
 dsimp only [zpk] at h |-
 split at h <;> cases h
 try simp only [L2, L3, std] at hp |-
 refine zal (T := tt) (S := fun L => zdh [onN]) (lo := noA) (lb := noA) 5 (fn := Try.f14) rfl rfl (by kernel_rfl) (by kernel_rfl) rfl zb4 (zau ⟨zff, trivial⟩) (by kernel_rfl) ?_
 (intro L P1 Q1 hL hP hQ; cbv; subst hL; simp only [L2, L3, std, syT]; subst hQ)
 (simp only [syS, reduceCtorEq, Int.reduceToNat, Int.reduceAdd, Int.reduceSub])
 all_goals first | done | exact ⟨fun _ => by simp [za8, zax, zak, zay.add, zcm], by decide⟩ | exact ⟨fun _ => by simp [ze1, za8, zax, zak, zay.add, zcm], by decide⟩ | exact ⟨fun h => absurd h (by decide), fun h => ⟨fun h1 => absurd h1 (by decide), fun _ => rfl⟩⟩ | decide | exact fun h => absurd h (by decide) | exact fun h => absurd h.symm (by decide) | skip
def zu1 : zeb := (15, fun xs => match xs with | [.nilp] => some (True, .int .i64 0) | _ => none)
theorem zmj : zgl Try.prog zu1 := by
 intro xs p r h hp
 dsimp only [zu1] at h |-
 split at h <;> cases h
 try simp only [L2, L3, std] at hp |-
 refine zal (T := tt) (S := fun L => zdh []) (lo := noA) (lb := noA) 5 (fn := Try.f15) rfl rfl (by kernel_rfl) (by kernel_rfl) rfl zb4 (zau trivial) (by kernel_rfl) ?_
 (intro L P1 Q1 hL hP hQ; cbv; subst hL; simp only [L2, L3, std, syT]; subst hQ)
 (simp only [syS, reduceCtorEq, Int.reduceToNat, Int.reduceAdd, Int.reduceSub])
 all_goals first | done | exact ⟨fun _ => by simp [za8, zax, zak, zay.add, zcm], by decide⟩ | exact ⟨fun _ => by simp [ze1, za8, zax, zak, zay.add, zcm], by decide⟩ | exact ⟨fun h => absurd h (by decide), fun h => ⟨fun h1 => absurd h1 (by decide), fun _ => rfl⟩⟩ | decide | exact fun h => absurd h (by decide) | exact fun h => absurd h.symm (by decide) | skip
def zvg : zeb := (16, fun xs => match xs with | [.nilp] => some (True, .bool false) | _ => none)
theorem zny : zgl Try.prog zvg := by
 intro xs p r h hp
 dsimp only [zvg] at h |-
 split at h <;> cases h
 try simp only [L2, L3, std] at hp |-
 refine zal (T := tt) (S := fun L => zdh []) (lo := noA) (lb := noA) 5 (fn := Try.f16) rfl rfl (by kernel_rfl) (by kernel_rfl) rfl zb4 (zau trivial) (by kernel_rfl) ?_
 (intro L P1 Q1 hL hP hQ; cbv; subst hL; simp only [L2, L3, std, syT]; subst hQ)
 (simp only [syS, reduceCtorEq, Int.reduceToNat, Int.reduceAdd, Int.reduceSub])
 all_goals first | done | exact ⟨fun _ => by simp [za8, zax, zak, zay.add, zcm], by decide⟩ | exact ⟨fun _ => by simp [ze1, za8, zax, zak, zay.add, zcm], by decide⟩ | exact ⟨fun h => absurd h (by decide), fun h => ⟨fun h1 => absurd h1 (by decide), fun _ => rfl⟩⟩ | decide | exact fun h => absurd h (by decide) | exact fun h => absurd h.symm (by decide) | skip
def zoj : zeb := (17, fun xs => match xs with | [.nilp] => some (True, .int .i64 0) | _ => none)
theorem zk0 : zgl Try.prog zoj := by
 intro xs p r h hp
 dsimp only [zoj] at h |-
 split at h <;> cases h
 try simp only [L2, L3, std] at hp |-
 refine zal (T := tt) (S := fun L => zdh []) (lo := noA) (lb := noA) 5 (fn := Try.f17) rfl rfl (by kernel_rfl) (by kernel_rfl) rfl zb4 (zau trivial) (by kernel_rfl) ?_
 (intro L P1 Q1 hL hP hQ; cbv; subst hL; simp only [L2, L3, std, syT]; subst hQ)
 (simp only [syS, reduceCtorEq, Int.reduceToNat, Int.reduceAdd, Int.reduceSub])
 all_goals first | done | exact ⟨fun _ => by simp [za8, zax, zak, zay.add, zcm], by decide⟩ | exact ⟨fun _ => by simp [ze1, za8, zax, zak, zay.add, zcm], by decide⟩ | exact ⟨fun h => absurd h (by decide), fun h => ⟨fun h1 => absurd h1 (by decide), fun _ => rfl⟩⟩ | decide | exact fun h => absurd h (by decide) | exact fun h => absurd h.symm (by decide) | skip
def zhr : zeb := (18, fun xs => match xs with | [.nilp] => some (True, .int .i64 0) | _ => none)
theorem zhq : zgl Try.prog zhr := by
 intro xs p r h hp
 dsimp only [zhr] at h |-
 split at h <;> cases h
 try simp only [L2, L3, std] at hp |-
 refine zal (T := tt) (S := fun L => zdh []) (lo := noA) (lb := noA) 5 (fn := Try.f18) rfl rfl (by kernel_rfl) (by kernel_rfl) rfl zb4 (zau trivial) (by kernel_rfl) ?_
 (intro L P1 Q1 hL hP hQ; cbv; subst hL; simp only [L2, L3, std, syT]; subst hQ)
 (simp only [syS, reduceCtorEq, Int.reduceToNat, Int.reduceAdd, Int.reduceSub])
 all_goals first | done | exact ⟨fun _ => by simp [za8, zax, zak, zay.add, zcm], by decide⟩ | exact ⟨fun _ => by simp [ze1, za8, zax, zak, zay.add, zcm], by decide⟩ | exact ⟨fun h => absurd h (by decide), fun h => ⟨fun h1 => absurd h1 (by decide), fun _ => rfl⟩⟩ | decide | exact fun h => absurd h (by decide) | exact fun h => absurd h.symm (by decide) | skip
end Sy
end Go.Proofs.Ytlphgephdhadhaa
namespace Go.Proofs.Ytlphgephdhadhaa
namespace Sy
open Go Go.RowKit
set_option linter.unusedVariables false
def DW (W : World) : Nat -> Prop := fun b => b < W.heap.size
structure zw0 {H : Type} (enc : TypeId × Value -> H) (P : Program) (W : World) (t : TypeId) (α : Type) (sz : Nat) (av : α -> Nat -> AV) (ok : α -> Prop) : Prop where
 size : P.cellsOf t = sz
 go : ∀ fuel cs x, DataW.trod enc P W 0 (fun _ => true) true fuel t cs = some x -> ∃ y : α, ok y /\ cs.length = sz /\ ∀ j, j < sz -> ∃ v, cs[j]? = some v /\ one v /\ R W.heap (DW W) zat (av y j) v
section
variable {H : Type} {enc : TypeId × Value -> H} {P : Program} {W : World}
theorem zw0.map {t : TypeId} {α β : Type} {sz : Nat} {av : α -> Nat -> AV} {av' : β -> Nat -> AV} {ok : α -> Prop} {ok' : β -> Prop} (O : zw0 enc P W t α sz av ok) (f : α -> β) (h1 : ∀ y j, j < sz -> av y j = av' (f y) j) (h2 : ∀ y, ok y -> ok' (f y)) : zw0 enc P W t β sz av' ok' := by
 refine ⟨O.size, fun fuel cs x h => ?_⟩
 obtain ⟨y, y1, y2, y3⟩ := O.go fuel cs x h
 refine ⟨f y, h2 y y1, y2, fun j hj => ?_⟩
 obtain ⟨v, v1, v2, v3⟩ := y3 j hj
 exact ⟨v, v1, v2, by rw [<- h1 y j hj]; exact v3⟩
end
end Sy
end Go.Proofs.Ytlphgephdhadhaa
namespace Go.Proofs.Ytlphgephdhadhaa
namespace Sy
open Go Go.RowKit
set_option maxRecDepth 100000
set_option linter.unusedSimpArgs false
set_option linter.unusedVariables false
theorem zo2 : zdg Try.prog 5 [] (.bool true) := by
 refine zal (T := tt) (S := fun L => zbq [] [zuq L, zjw L, zoh L, zol L, zkv L, zpd, zkd]) (lo := noA) (lb := noA) 12 (fn := Try.f5) rfl rfl (by kernel_rfl) (by kernel_rfl) rfl zb4 (zac trivial ⟨zsf, zmi, zoi, zom, znz, zpe, znh, trivial⟩) (by kernel_rfl) ?_
 intro L P' Q' hL hP hQ
 (cbv; try simp only [syT, true_and, and_true])
 subst hL
 subst hQ
 have e0 : ine 0 0 = false := by decide
 have e1 : ieq 0 0 = true := by decide
 have s0 : zbg 0 := ⟨by decide, by decide⟩
 have s1 : zbg (inc 0) := ⟨by decide, by decide⟩
 have s2 : zbg (inc (inc 0)) := ⟨by decide, by decide⟩
 have s3 : zbg (inc (inc (inc 0))) := ⟨by decide, by decide⟩
 have w1 : zxu [120] (.a 0) := ⟨s0, by decide⟩
 have w2 : zxu [121] (.c (inc (inc (inc 0))) [120] [120]) := ⟨s3, by decide, by decide⟩
 have sh : zbc [120] := by unfold zbc; decide
 have q1 : seq [120] [120] = true := by decide
 have q2 : ieq (zan 1) 1 = true := by decide
 simp [std, e0, e1, s1, s2, w1, w2, sh, q1, q2, zjc]
def zgh : zeb := (5, fun xs => match xs with | [] => some (True, .bool true) | _ => none)
theorem zjn : zgl Try.prog zgh := by
 intro xs p r h hp
 dsimp only [zgh] at h |-
 split at h <;> cases h
 try simp only [L2, L3, std] at hp |-
 exact zo2
theorem law_DiskNil : zdg Try.prog 3 [] (.bool true) := by
 refine zal (T := tt) (S := fun L => zdh [zgh, zvb, zqo, zuo, zo7, zu5, zk5, zk6, zuf, zpk, zu1, zvg, zoj, zhr]) (lo := noA) (lb := noA) 12 (fn := Try.f3) rfl rfl (by kernel_rfl) (by kernel_rfl) rfl zb4
   (zau ⟨zjn, znr, zkw, znd, zjx, zmm, zio, ziq, zmp, zke, zmj, zny, zk0, zhq, trivial⟩) (by kernel_rfl) ?_
 (intro L P1 Q1 hL hP hQ; cbv; subst hL; simp only [L2, L3, std, syT]; subst hQ)
 (simp only [syS, reduceCtorEq, Int.reduceToNat, Int.reduceAdd, Int.reduceSub])
end Sy
end Go.Proofs.Ytlphgephdhadhaa
