/- The symbolic executor: the arguments of a law, opened: what the given data says of them, as abstract values. -/
import Derived.Test.YtckbbcjbbmgmoaaDoorSyU
import Derived.ChangeArms
import Derived.ChangeSlices
import Derived.OpenShut
import Derived.WideShapes
namespace Go.Proofs.YtckbbcjbbmgmoaaDoor
namespace Sy
open Go Go.RowKit
set_option linter.unusedVariables false

def DW (W : World) : Nat → Prop := fun b => b < W.heap.size
/-- The cells that read as data of a type are told by something of a type of Lean. -/
structure Opens {H : Type} (enc : TypeId × Value → H) (P : Program) (W : World) (t : TypeId) (α : Type) (sz : Nat) (av : α → Nat → AV) (ok : α → Prop) : Prop where
  size : P.cellsOf t = sz
  go : ∀ fuel cs x, DataW.trod enc P W 0 (fun _ => true) true fuel t cs = some x → ∃ y : α, ok y ∧ cs.length = sz ∧ ∀ j, j < sz → ∃ v, cs[j]? = some v ∧ one v ∧ R W.heap (DW W) noMu (av y j) v
structure OpensF {H : Type} (enc : TypeId × Value → H) (P : Program) (W : World) (fs : List Field) (off : Nat) (α : Type) (sz : Nat) (av : α → Nat → AV) (ok : α → Prop) : Prop where
  go : ∀ fuel (cs : List Value) (xs : List (DataW H × List MemPlace)), (∀ (i : Nat) (f : Field), fs[i]? = some f → ∃ x, DataW.trod enc P W 0 (fun _ => true) true fuel f.type ((cs.drop f.offset).take (P.cellsOf f.type)) = some x) → ∃ y : α, ok y ∧ ∀ j, j < sz → ∃ v, cs[off + j]? = some v ∧ one v ∧ R W.heap (DW W) noMu (av y j) v

theorem sgl {h : Array Obj} {D : Nat → Prop} {f : Nat → AV} {v : Value} (h1 : one v) (h2 : R h D noMu (f 0) v) : ∀ j, j < 1 → ∃ u, [v][j]? = some u ∧ one u ∧ R h D noMu (f j) u := by
  intro j hj
  obtain rfl : j = 0 := by omega
  exact ⟨v, rfl, h1, h2⟩
theorem list_of {α : Type} (p : Nat → α → Prop) : ∀ n, (∀ i, i < n → ∃ y, p i y) → ∃ l : List α, l.length = n ∧ ∀ i, i < n → ∃ y, l[i]? = some y ∧ p i y
  | 0, _ => ⟨[], rfl, fun i hi => by omega⟩
  | m + 1, h => by
    obtain ⟨l, e1, e2⟩ := list_of p m (fun i hi => h i (by omega))
    obtain ⟨y, hy⟩ := h m (by omega)
    refine ⟨l ++ [y], by simp [e1], fun i hi => ?_⟩
    by_cases hi' : i < m
    · obtain ⟨z, z1, z2⟩ := e2 i hi'
      exact ⟨z, by rw [List.getElem?_append_left (by omega)]; exact z1, z2⟩
    · have : i = m := by omega
      subst this
      exact ⟨y, by rw [← e1]; simp, hy⟩

section
variable {H : Type} {enc : TypeId × Value → H} {P : Program} {W : World}
theorem opens_int {t : TypeId} {k : IntKind} (ht : P.underlying t = some (.int k)) (hc : P.cellsOf t = 1) : Opens enc P W t Int 1 (fun n _ => .int k n) (fun n => (Lit.int k n).wf = true) := by
  refine ⟨hc, fun fuel cs x h => ?_⟩
  obtain ⟨n, rfl, rfl, hw⟩ := DataW.trod_int ht h
  exact ⟨n, hw, rfl, sgl rfl (.int k n)⟩
theorem opens_bool {t : TypeId} (ht : P.underlying t = some .bool) (hc : P.cellsOf t = 1) : Opens enc P W t Bool 1 (fun b _ => .bool b) (fun _ => True) := by
  refine ⟨hc, fun fuel cs x h => ?_⟩
  obtain ⟨b, rfl, rfl⟩ := DataW.trod_bool ht h
  exact ⟨b, trivial, rfl, sgl rfl (.bool b)⟩
theorem opens_str {t : TypeId} (ht : P.underlying t = some .string) (hc : P.cellsOf t = 1) : Opens enc P W t (List UInt8) 1 (fun l _ => .str l) (fun l => l.length ≤ maxLen) := by
  refine ⟨hc, fun fuel cs x h => ?_⟩
  obtain ⟨s, rfl, rfl, hs⟩ := DataW.trod_string ht h
  exact ⟨s.data.toList, by rw [Array.length_toList]; exact hs, rfl, sgl rfl (.str _ _ rfl)⟩
/-- A list's cells. -/
def avL {α : Type} (av : α → Nat → AV) (l : List α) (i j : Nat) : AV := match l[i]? with | some y => av y j | none => .dead
theorem opens_slice {t e : TypeId} {α : Type} {sz : Nat} {av : α → Nat → AV} {ok : α → Prop} (ht : P.underlying t = some (.slice e)) (hc : P.cellsOf t = 1) (he : Opens enc P W e α sz av ok) (hs : 0 < sz) :
    Opens enc P W t (List α) 1 (fun l _ => .lst sz l.length (avL av l)) (fun l => l.length ≤ maxLen ∧ ∀ y ∈ l, ok y) := by
  refine ⟨hc, fun fuel cs x h => ?_⟩
  rcases DataW.trod_slice ht h with ⟨rfl, rfl⟩ | ⟨a, len, cap, elems, rest, n, _, rfl, rfl, hb, hl, hm, hlen, hel, _, _⟩
  · exact ⟨[], ⟨Nat.zero_le _, fun y hy => by cases hy⟩, rfl, sgl rfl (.lst0 _ _ _ _ (fun _ => rfl))⟩
  · have each : ∀ i, i < len → ∃ y : α, ok y ∧ ∀ j, j < sz → ∃ v, W.cell? ((a.add (i * sz)).add j) = some v ∧ one v ∧ R W.heap (DW W) noMu (av y j) v := by
      intro i hi
      have h1 := hel i hi
      rw [he.size] at h1
      obtain ⟨z, hz⟩ : ∃ z, elems[i]? = some z := ⟨elems[i], by simp [hlen, hi]⟩
      rw [hz, Option.bind_eq_some_iff] at h1
      obtain ⟨cs', h2, h3⟩ := h1
      obtain ⟨y, y1, y2, y3⟩ := he.go _ _ _ h3
      refine ⟨y, y1, fun j hj => ?_⟩
      obtain ⟨v, v1, v2, v3⟩ := y3 j hj
      exact ⟨v, by rw [(World.cells?_some h2).2.2 j hj]; exact v1, v2, v3⟩
    obtain ⟨l, hl1, hl2⟩ : ∃ l : List α, l.length = len ∧ ∀ i, i < len → ∃ y, l[i]? = some y ∧ ok y ∧ ∀ j, j < sz → ∃ v, W.cell? ((a.add (i * sz)).add j) = some v ∧ one v ∧ R W.heap (DW W) noMu (av y j) v :=
      list_of (fun i y => ok y ∧ ∀ j, j < sz → ∃ v, W.cell? ((a.add (i * sz)).add j) = some v ∧ one v ∧ R W.heap (DW W) noMu (av y j) v) len each
    refine ⟨l, ⟨by omega, fun y hy => ?_⟩, rfl, sgl rfl ?_⟩
    · obtain ⟨i, hi, rfl⟩ := List.getElem_of_mem hy
      obtain ⟨z, z1, z2, _⟩ := hl2 i (by omega)
      rw [List.getElem?_eq_getElem hi] at z1
      cases z1; exact z2
    · show R W.heap (DW W) noMu (.lst sz l.length (avL av l)) _
      by_cases h0 : len = 0
      · subst h0; rw [hl1]; exact .lst0 _ _ _ _ (fun h => by cases h)
      · have cell : ∀ i j, i < len → j < sz → ∃ v, hcell W.heap a.block (a.off + i * sz + j) = some v ∧ one v ∧ R W.heap (DW W) noMu (avL av l i j) v := by
          intro i j hi hj
          obtain ⟨y, y1, _, y3⟩ := hl2 i hi
          obtain ⟨v, v1, v2, v3⟩ := y3 j hj
          refine ⟨v, ?_, v2, by rw [avL, y1]; exact v3⟩
          rw [← cell_h]
          have hsp : ∀ p : Addr, W.cell? p = some v → p.spot = none := by
            intro p hp
            unfold World.cell? at hp
            split at hp
            · split at hp
              · cases hp
              · rename_i hn; simpa using hn
            · cases hp
          have h1 := hsp _ v1
          have e : (a.add (i * sz)).add j = ⟨a.block, a.off + i * sz + j, none⟩ := by
            have hb1 : ((a.add (i * sz)).add j).block = a.block := by simp only [Addr.add]; split <;> split <;> rfl
            have hb2 : ((a.add (i * sz)).add j).off = a.off + i * sz + j := by simp only [Addr.add]; split <;> split <;> simp_all
            cases hq : (a.add (i * sz)).add j with
            | mk b o s => rw [hq] at h1 hb1 hb2; simp_all
          rw [← e]; exact v1
        have hsp0 : a.spot = none := by
          obtain ⟨y, _, _, y3⟩ := hl2 0 (by omega)
          obtain ⟨v, v1, _⟩ := y3 0 hs
          rw [Nat.zero_mul] at v1
          simp only [Addr.add, if_true] at v1
          unfold World.cell? at v1
          split at v1
          · split at v1
            · cases v1
            · rename_i hn; simpa using hn
          · cases v1
        have hD : DW W a.block := by
          obtain ⟨v, v1, _⟩ := cell 0 0 (by omega) hs
          refine Classical.byContradiction fun hn => ?_
          unfold hcell at v1
          rw [Array.getElem?_eq_none (by unfold DW at hn; omega)] at v1
          cases v1
        have ea : a = ⟨a.block, a.off, none⟩ := by cases a; simp_all
        rw [ea, ← hl1]
        refine .lst sz l.length (avL av l) a.block a.off cap (fun i j => (hcell W.heap a.block (a.off + i * sz + j)).getD undef) hD (by omega) (fun i j hi hj => ?_) (fun i j hi hj => ?_) (fun i j hi hj => ?_)
        all_goals
          obtain ⟨v, v1, v2, v3⟩ := cell i j (by omega) hj
          rw [v1]
          first | rfl | exact v2 | exact v3
theorem opens_arr {t e : TypeId} {α : Type} {sz n : Nat} {av : α → Nat → AV} {ok : α → Prop} (ht : P.underlying t = some (.array n e)) (hc : P.cellsOf t = n * sz) (he : Opens enc P W e α sz av ok) (hs : 0 < sz) :
    Opens enc P W t (List α) (n * sz) (fun l j => avL av l (j / sz) (j % sz)) (fun l => l.length = n ∧ ∀ y ∈ l, ok y) := by
  refine ⟨hc, fun fuel cs x h => ?_⟩
  obtain ⟨xs, m, _, rfl, hl, hx, hel⟩ := DataW.trod_array ht h
  obtain ⟨l, hl1, hl2⟩ : ∃ l : List α, l.length = n ∧ ∀ i, i < n → ∃ y, l[i]? = some y ∧ ok y ∧ ∀ j, j < sz → ∃ v, cs[i * sz + j]? = some v ∧ one v ∧ R W.heap (DW W) noMu (av y j) v :=
    list_of (fun i y => ok y ∧ ∀ j, j < sz → ∃ v, cs[i * sz + j]? = some v ∧ one v ∧ R W.heap (DW W) noMu (av y j) v) n (fun i hi => by
      have h1 := hel i hi
      rw [he.size, List.getElem?_eq_getElem (by omega)] at h1
      obtain ⟨y, y1, y2, y3⟩ := he.go _ _ _ h1
      refine ⟨y, y1, fun j hj => ?_⟩
      obtain ⟨v, v1, v2⟩ := y3 j hj
      rw [List.getElem?_take, if_pos hj, List.getElem?_drop] at v1
      exact ⟨v, v1, v2⟩)
  refine ⟨l, ⟨hl1, fun y hy => ?_⟩, by rw [hl, hc], fun j hj => ?_⟩
  · obtain ⟨i, hi, rfl⟩ := List.getElem_of_mem hy
    obtain ⟨z, z1, z2, _⟩ := hl2 i (by omega)
    rw [List.getElem?_eq_getElem hi] at z1
    cases z1; exact z2
  · have hi : j / sz < n := Nat.div_lt_of_lt_mul (by rw [Nat.mul_comm]; exact hj)
    obtain ⟨z, z1, _, z3⟩ := hl2 (j / sz) hi
    obtain ⟨v, v1, v2⟩ := z3 (j % sz) (Nat.mod_lt _ hs)
    rw [show j / sz * sz + j % sz = j by rw [Nat.mul_comm]; exact Nat.div_add_mod j sz] at v1
    exact ⟨v, v1, by unfold avL; rw [z1]; exact v2⟩
theorem opensF_nil (off : Nat) : OpensF enc P W [] off Unit 0 (fun _ _ => .dead) (fun _ => True) := ⟨fun _ _ _ _ => ⟨(), trivial, fun j hj => by omega⟩⟩
theorem opensF_cons {f : Field} {fs : List Field} {off : Nat} {α β : Type} {sz sz' : Nat} {av : α → Nat → AV} {av' : β → Nat → AV} {ok : α → Prop} {ok' : β → Prop} (ho : f.offset = off) (hf : Opens enc P W f.type α sz av ok) (hr : OpensF enc P W fs (off + sz) β sz' av' ok') :
    OpensF enc P W (f :: fs) off (α × β) (sz + sz') (fun y j => if j < sz then av y.1 j else av' y.2 (j - sz)) (fun y => ok y.1 ∧ ok' y.2) := by
  refine ⟨fun fuel cs xs h => ?_⟩
  obtain ⟨x, hx⟩ := h 0 f rfl
  obtain ⟨y, y1, y2, y3⟩ := hf.go _ _ _ hx
  obtain ⟨z, z1, z2⟩ := hr.go fuel cs xs (fun i g hg => h (i + 1) g hg)
  refine ⟨(y, z), ⟨y1, z1⟩, fun j hj => ?_⟩
  by_cases hlt : j < sz
  · obtain ⟨v, v1, v2, v3⟩ := y3 j hlt
    refine ⟨v, ?_, v2, by simp only [if_pos hlt]; exact v3⟩
    rw [hf.size, List.getElem?_take, if_pos hlt, List.getElem?_drop, ho] at v1
    exact v1
  · obtain ⟨v, v1, v2, v3⟩ := z2 (j - sz) (by omega)
    refine ⟨v, ?_, v2, by simp only [if_neg hlt]; exact v3⟩
    rw [← v1]; congr 1; omega
theorem opens_struct {t : TypeId} {fs : Array Field} {α : Type} {sz : Nat} {av : α → Nat → AV} {ok : α → Prop} (ht : P.underlying t = some (.struct fs)) (hc : P.cellsOf t = sz) (hf : OpensF enc P W fs.toList 0 α sz av ok) : Opens enc P W t α sz av ok := by
  refine ⟨hc, fun fuel cs x h => ?_⟩
  obtain ⟨xs, n, rfl, rfl, hl, hx, hfs⟩ := DataW.trod_struct ht h
  obtain ⟨y, y1, y2⟩ := hf.go n cs xs (fun i f hi => by
    have := hfs i f (by simpa using hi)
    have hlt : i < xs.length := by rw [hx]; simpa using (List.getElem?_eq_some_iff.1 hi).1
    exact ⟨xs[i], by rw [this]; simp [hlt]⟩)
  exact ⟨y, y1, by omega, fun j hj => by obtain ⟨v, v1, v2⟩ := y2 j hj; exact ⟨v, by simpa using v1, v2⟩⟩
theorem Opens.map {t : TypeId} {α β : Type} {sz : Nat} {av : α → Nat → AV} {av' : β → Nat → AV} {ok : α → Prop} {ok' : β → Prop} (O : Opens enc P W t α sz av ok) (f : α → β) (h1 : ∀ y j, j < sz → av y j = av' (f y) j) (h2 : ∀ y, ok y → ok' (f y)) : Opens enc P W t β sz av' ok' := by
  refine ⟨O.size, fun fuel cs x h => ?_⟩
  obtain ⟨y, y1, y2, y3⟩ := O.go fuel cs x h
  refine ⟨f y, h2 y y1, y2, fun j hj => ?_⟩
  obtain ⟨v, v1, v2, v3⟩ := y3 j hj
  exact ⟨v, v1, v2, by rw [← h1 y j hj]; exact v3⟩
/-- An argument of one cell. -/
theorem open_one {t : TypeId} {α : Type} {av : α → Nat → AV} {ok : α → Prop} {v : Value} {d : DataW H} {p : List MemPlace} (O : Opens enc P W t α 1 av ok) (hv : v.cells = #[v]) (h : DataW.Trod enc P W 0 (fun _ => true) true t v d p) :
    ∃ y, ok y ∧ R W.heap (DW W) noMu (av y 0) v := by
  obtain ⟨fuel, h⟩ := h
  obtain ⟨y, y1, y2, y3⟩ := O.go _ _ _ h
  obtain ⟨u, u1, u2, u3⟩ := y3 0 (by omega)
  rw [hv] at u1
  simp at u1
  subst u1
  exact ⟨y, y1, u3⟩
/-- An argument that is a struct, or an array. -/
theorem open_agg {t : TypeId} {α : Type} {sz : Nat} {av : α → Nat → AV} {ok : α → Prop} {cs : Array Value} {d : DataW H} {p : List MemPlace} (O : Opens enc P W t α sz av ok) (h : DataW.Trod enc P W 0 (fun _ => true) true t (.agg cs) d p) :
    ∃ y, ok y ∧ R W.heap (DW W) noMu (.agg ((List.range sz).map (av y))) (.agg cs) := by
  obtain ⟨fuel, h⟩ := h
  obtain ⟨y, y1, y2, y3⟩ := O.go _ _ _ h
  refine ⟨y, y1, .agg _ _ (by simpa [Value.cells] using y2.symm) (fun i v hv => ?_) (fun i x v hx hv => ?_)⟩
  · have hi : i < sz := by
      have := (Array.getElem?_eq_some_iff.1 hv).1
      simp [Value.cells] at y2; omega
    obtain ⟨u, u1, u2, u3⟩ := y3 i hi
    simp [Value.cells] at u1
    rw [u1] at hv; cases hv; exact u2
  · have hi : i < sz := by
      have := (List.getElem?_eq_some_iff.1 hx).1
      simpa using this
    obtain ⟨u, u1, u2, u3⟩ := y3 i hi
    simp [Value.cells] at u1
    rw [u1] at hv; cases hv
    simp [hi] at hx
    subst hx; exact u3
theorem cells_slice {a : Option Addr} {n c : Nat} : (Value.slice a n c).cells = #[.slice a n c] := rfl
end
theorem ac_args {P : Program} {f : FuncId} {xs ys : List AV} {r : AV} (h : ∀ h D vs, RL h D noMu xs vs → RL h D noMu ys vs) (ha : ACalls P f ys r) : ACalls P f xs r := fun D w vs hD hx => ha D w vs hD (h _ _ _ hx)
/-- The first argument's cells told in other words. -/
theorem rl_lst {h : Array Obj} {D : Nat → Prop} {sz n : Nat} {g g' : Nat → Nat → AV} {xs : List AV} {vs : Array Value} (e : ∀ i j, i < n → j < sz → g i j = g' i j) (r : RL h D noMu (.lst sz n g :: xs) vs) : RL h D noMu (.lst sz n g' :: xs) vs := by
  obtain ⟨h1, h2⟩ := r
  refine ⟨by simpa using h1, fun i x v hx hv => ?_⟩
  cases i with
  | zero => cases hx; exact lst_same (h2 0 _ v rfl hv) e
  | succ i => exact h2 (i + 1) x v (by simpa using hx) hv
end Sy
end Go.Proofs.YtckbbcjbbmgmoaaDoor
