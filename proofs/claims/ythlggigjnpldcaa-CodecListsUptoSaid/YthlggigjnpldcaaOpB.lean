/- The arguments of a law, opened, with the bulk of what is read. -/
import Derived.Test.YthlggigjnpldcaaOpn
import Derived.Test.YthlggigjnpldcaaRows
import Derived.JoinedOf
import Derived.JoinedAt
import Derived.JoinedCond
namespace Go.Proofs.Ythlggigjnpldcaa
namespace Sy
open Go Go.RowKit
set_option linter.unusedVariables false

abbrev bulk {H : Type} : DataW H → Nat := Rows.uptoBulk
abbrev bulks {H : Type} : List (DataW H) → Nat := Rows.uptoBulkAll
structure OpensB {H : Type} (enc : TypeId × Value → H) (P : Program) (W : World) (t : TypeId) (α : Type) (sz : Nat) (av : α → Nat → AV) (ok : α → Prop) (bk : α → Nat) : Prop where
  size : P.cellsOf t = sz
  go : ∀ fuel cs x, DataW.trod enc P W 0 (fun _ => true) true fuel t cs = some x → ∃ y : α, (ok y ∧ bk y + 1 ≤ bulk x.1) ∧ cs.length = sz ∧ ∀ j, j < sz → ∃ v, cs[j]? = some v ∧ one v ∧ R W.heap (DW W) noMu (av y j) v
structure OpensFB {H : Type} (enc : TypeId × Value → H) (P : Program) (W : World) (fs : List Field) (off : Nat) (α : Type) (sz : Nat) (av : α → Nat → AV) (ok : α → Prop) (bk : α → Nat) : Prop where
  go : ∀ fuel (cs : List Value) (xs : List (DataW H × List MemPlace)), xs.length = fs.length → (∀ (i : Nat) (f : Field), fs[i]? = some f → DataW.trod enc P W 0 (fun _ => true) true fuel f.type ((cs.drop f.offset).take (P.cellsOf f.type)) = xs[i]?) →
    ∃ y : α, (ok y ∧ bk y ≤ bulks (xs.map (·.1))) ∧ ∀ j, j < sz → ∃ v, cs[off + j]? = some v ∧ one v ∧ R W.heap (DW W) noMu (av y j) v
section
variable {H : Type} {enc : TypeId × Value → H} {P : Program} {W : World}
theorem opensB_int {t : TypeId} {k : IntKind} (ht : P.underlying t = some (.int k)) (hc : P.cellsOf t = 1) : OpensB enc P W t Int 1 (fun n _ => .int k n) (fun n => (Lit.int k n).wf = true) (fun _ => 0) := by
  refine ⟨hc, fun fuel cs x h => ?_⟩
  obtain ⟨n, rfl, rfl, hw⟩ := DataW.trod_int ht h
  exact ⟨n, ⟨hw, Nat.le_refl _⟩, rfl, sgl rfl (.int k n)⟩
theorem opensB_str {t : TypeId} (ht : P.underlying t = some .string) (hc : P.cellsOf t = 1) : OpensB enc P W t (List UInt8) 1 (fun l _ => .str l) (fun l => l.length ≤ maxLen) List.length := by
  refine ⟨hc, fun fuel cs x h => ?_⟩
  obtain ⟨s, rfl, rfl, hs⟩ := DataW.trod_string ht h
  exact ⟨s.data.toList, ⟨by rw [Array.length_toList]; exact hs, Nat.le_refl _⟩, rfl, sgl rfl (.str _ _ rfl)⟩
def bkL {α : Type} (bk : α → Nat) : List α → Nat
  | [] => 0
  | y :: l => bk y + 1 + bkL bk l
theorem bkL_len {α : Type} (bk : α → Nat) : ∀ l : List α, l.length ≤ bkL bk l
  | [] => Nat.zero_le _
  | y :: l => by have := bkL_len bk l; simp only [List.length_cons, bkL]; omega
theorem bkL_mem {α : Type} (bk : α → Nat) : ∀ (l : List α) (y : α), y ∈ l → bk y ≤ bkL bk l
  | z :: l, y, h => by
    rcases List.mem_cons.1 h with rfl | h
    · simp only [bkL]; omega
    · have := bkL_mem bk l y h; simp only [bkL]; omega
theorem bulks_of {α : Type} (bk : α → Nat) : ∀ (l : List α) (ds : List (DataW H)), ds.length = l.length → (∀ (i : Nat) y d, l[i]? = some y → ds[i]? = some d → bk y + 1 ≤ bulk d) → bkL bk l ≤ bulks ds
  | [], ds, _, _ => Nat.zero_le _
  | y :: l, [], h, _ => by simp at h
  | y :: l, d :: ds, hl, h => by
    have h0 := h 0 y d rfl rfl
    have ih := bulks_of bk l ds (by simpa using hl) (fun i y d hy hd => h (i + 1) y d (by simpa using hy) (by simpa using hd))
    show bk y + 1 + bkL bk l ≤ bulk d + bulks ds
    omega
theorem opensB_slice {t e : TypeId} {α : Type} {sz : Nat} {av : α → Nat → AV} {ok : α → Prop} {bk : α → Nat} (ht : P.underlying t = some (.slice e)) (hc : P.cellsOf t = 1) (he : OpensB enc P W e α sz av ok bk) (hs : 0 < sz) :
    OpensB enc P W t (List α) 1 (fun l _ => .lst sz l.length (avL av l)) (fun l => l.length ≤ maxLen ∧ ∀ y ∈ l, ok y) (bkL bk) := by
  refine ⟨hc, fun fuel cs x h => ?_⟩
  rcases DataW.trod_slice ht h with ⟨rfl, rfl⟩ | ⟨a, len, cap, elems, rest, n, _, rfl, rfl, hb, hl, hm, hlen, hel, _, _⟩
  · exact ⟨[], ⟨⟨Nat.zero_le _, fun y hy => by cases hy⟩, Nat.le_refl _⟩, rfl, sgl rfl (.lst0 _ _ _ _ (fun _ => rfl))⟩
  · have each : ∀ i, i < len → ∃ y : α, (ok y ∧ ∀ d, elems[i]? = some d → bk y + 1 ≤ bulk d.1) ∧ ∀ j, j < sz → ∃ v, W.cell? ((a.add (i * sz)).add j) = some v ∧ one v ∧ R W.heap (DW W) noMu (av y j) v := by
      intro i hi
      have h1 := hel i hi
      rw [he.size] at h1
      obtain ⟨z, hz⟩ : ∃ z, elems[i]? = some z := ⟨elems[i], by simp [hlen, hi]⟩
      rw [hz, Option.bind_eq_some_iff] at h1
      obtain ⟨cs', h2, h3⟩ := h1
      obtain ⟨y, y1, y2, y3⟩ := he.go _ _ _ h3
      refine ⟨y, ⟨y1.1, fun d hd => by rw [hz] at hd; cases hd; exact y1.2⟩, fun j hj => ?_⟩
      obtain ⟨v, v1, v2, v3⟩ := y3 j hj
      exact ⟨v, by rw [(World.cells?_some h2).2.2 j hj]; exact v1, v2, v3⟩
    obtain ⟨l, hl1, hl2⟩ : ∃ l : List α, l.length = len ∧ ∀ i, i < len → ∃ y, l[i]? = some y ∧ (ok y ∧ ∀ d, elems[i]? = some d → bk y + 1 ≤ bulk d.1) ∧ ∀ j, j < sz → ∃ v, W.cell? ((a.add (i * sz)).add j) = some v ∧ one v ∧ R W.heap (DW W) noMu (av y j) v :=
      list_of (fun i y => (ok y ∧ ∀ d, elems[i]? = some d → bk y + 1 ≤ bulk d.1) ∧ ∀ j, j < sz → ∃ v, W.cell? ((a.add (i * sz)).add j) = some v ∧ one v ∧ R W.heap (DW W) noMu (av y j) v) len each
    refine ⟨l, ⟨⟨by omega, fun y hy => ?_⟩, ?_⟩, rfl, sgl rfl ?_⟩
    · obtain ⟨i, hi, rfl⟩ := List.getElem_of_mem hy
      obtain ⟨z, z1, z2, _⟩ := hl2 i (by omega)
      rw [List.getElem?_eq_getElem hi] at z1
      cases z1; exact z2.1
    · have := bulks_of (H := H) bk l (elems.map (·.1)) (by rw [List.length_map, hlen, hl1]) (fun i y d hy hd => by
        rw [List.getElem?_map, Option.map_eq_some_iff] at hd
        obtain ⟨z, hz, rfl⟩ := hd
        have hi : i < len := by rw [← hlen]; exact (List.getElem?_eq_some_iff.1 hz).1
        obtain ⟨y', z1, z2, _⟩ := hl2 i hi
        rw [hy] at z1; cases z1
        exact z2.2 z hz)
      show bkL bk l + 1 ≤ Rows.uptoBulkAll (elems.map (·.1)) + Rows.uptoBulkAll (rest.map (·.1)) + 1
      have : bkL bk l ≤ Rows.uptoBulkAll (elems.map (·.1)) := this
      omega
    · show R W.heap (DW W) noMu (.lst sz l.length (avL av l)) _
      by_cases h0 : len = 0
      · subst h0; rw [hl1]; exact .lst0 _ _ _ _ (fun h => by cases h)
      · have cell : ∀ i j, i < len → j < sz → ∃ v, hcell W.heap a.block (a.off + i * sz + j) = some v ∧ one v ∧ R W.heap (DW W) noMu (avL av l i j) v := by
          intro i j hi hj
          obtain ⟨y, y1, _, y3⟩ := hl2 i hi
          obtain ⟨v, v1, v2, v3⟩ := y3 j hj
          refine ⟨v, ?_, v2, by rw [avL, y1]; exact v3⟩
          rw [← cell_h]
          have hsp : ∀ p : Addr, W.cell? p = some v → p.spot = none := by
            intro p hp
            unfold World.cell? at hp
            split at hp
            · split at hp
              · cases hp
              · rename_i hn; simpa using hn
            · cases hp
          have h1 := hsp _ v1
          have e : (a.add (i * sz)).add j = ⟨a.block, a.off + i * sz + j, none⟩ := by
            have hb1 : ((a.add (i * sz)).add j).block = a.block := by simp only [Addr.add]; split <;> split <;> rfl
            have hb2 : ((a.add (i * sz)).add j).off = a.off + i * sz + j := by simp only [Addr.add]; split <;> split <;> simp_all
            cases hq : (a.add (i * sz)).add j with
            | mk b o s => rw [hq] at h1 hb1 hb2; simp_all
          rw [← e]; exact v1
        have hsp0 : a.spot = none := by
          obtain ⟨y, _, _, y3⟩ := hl2 0 (by omega)
          obtain ⟨v, v1, _⟩ := y3 0 hs
          rw [Nat.zero_mul] at v1
          simp only [Addr.add, if_true] at v1
          unfold World.cell? at v1
          split at v1
          · split at v1
            · cases v1
            · rename_i hn; simpa using hn
          · cases v1
        have hD : DW W a.block := by
          obtain ⟨v, v1, _⟩ := cell 0 0 (by omega) hs
          refine Classical.byContradiction fun hn => ?_
          unfold hcell at v1
          rw [Array.getElem?_eq_none (by unfold DW at hn; omega)] at v1
          cases v1
        have ea : a = ⟨a.block, a.off, none⟩ := by cases a; simp_all
        rw [ea, ← hl1]
        refine .lst sz l.length (avL av l) a.block a.off cap (fun i j => (hcell W.heap a.block (a.off + i * sz + j)).getD undef) hD (by omega) (fun i j hi hj => ?_) (fun i j hi hj => ?_) (fun i j hi hj => ?_)
        all_goals
          obtain ⟨v, v1, v2, v3⟩ := cell i j (by omega) hj
          rw [v1]
          first | rfl | exact v2 | exact v3
theorem opensFB_nil (off : Nat) : OpensFB enc P W [] off Unit 0 (fun _ _ => .dead) (fun _ => True) (fun _ => 0) := ⟨fun _ _ _ _ _ => ⟨(), ⟨trivial, Nat.zero_le _⟩, fun j hj => by omega⟩⟩
theorem opensFB_cons {f : Field} {fs : List Field} {off : Nat} {α β : Type} {sz sz' : Nat} {av : α → Nat → AV} {av' : β → Nat → AV} {ok : α → Prop} {ok' : β → Prop} {bk : α → Nat} {bk' : β → Nat} (ho : f.offset = off) (hf : OpensB enc P W f.type α sz av ok bk) (hr : OpensFB enc P W fs (off + sz) β sz' av' ok' bk') :
    OpensFB enc P W (f :: fs) off (α × β) (sz + sz') (fun y j => if j < sz then av y.1 j else av' y.2 (j - sz)) (fun y => ok y.1 ∧ ok' y.2) (fun y => bk y.1 + bk' y.2) := by
  refine ⟨fun fuel cs xs hl h => ?_⟩
  match xs, hl with
  | x :: xs, hl =>
    have hx := h 0 f rfl
    obtain ⟨y, y1, y2, y3⟩ := hf.go _ _ x (by rw [hx]; rfl)
    obtain ⟨z, z1, z2⟩ := hr.go fuel cs xs (by simpa using hl) (fun i g hg => by have := h (i + 1) g hg; simpa using this)
    refine ⟨(y, z), ⟨⟨y1.1, z1.1⟩, ?_⟩, fun j hj => ?_⟩
    · have h1 := y1.2
      have h2 := z1.2
      show bk y + bk' z ≤ Rows.uptoBulk x.1 + Rows.uptoBulkAll (xs.map (·.1))
      have h1 : bk y + 1 ≤ Rows.uptoBulk x.1 := h1
      have h2 : bk' z ≤ Rows.uptoBulkAll (xs.map (·.1)) := h2
      omega
    · by_cases hlt : j < sz
      · obtain ⟨v, v1, v2, v3⟩ := y3 j hlt
        refine ⟨v, ?_, v2, by simp only [if_pos hlt]; exact v3⟩
        rw [hf.size, List.getElem?_take, if_pos hlt, List.getElem?_drop, ho] at v1
        exact v1
      · obtain ⟨v, v1, v2, v3⟩ := z2 (j - sz) (by omega)
        refine ⟨v, ?_, v2, by simp only [if_neg hlt]; exact v3⟩
        rw [← v1]; congr 1; omega
theorem opensB_struct {t : TypeId} {fs : Array Field} {α : Type} {sz : Nat} {av : α → Nat → AV} {ok : α → Prop} {bk : α → Nat} (ht : P.underlying t = some (.struct fs)) (hc : P.cellsOf t = sz) (hf : OpensFB enc P W fs.toList 0 α sz av ok bk) : OpensB enc P W t α sz av ok bk := by
  refine ⟨hc, fun fuel cs x h => ?_⟩
  obtain ⟨xs, n, rfl, rfl, hl, hx, hfs⟩ := DataW.trod_struct ht h
  obtain ⟨y, y1, y2⟩ := hf.go n cs xs (by simpa using hx) (fun i f hi => hfs i f (by simpa using hi))
  exact ⟨y, ⟨y1.1, Nat.succ_le_succ y1.2⟩, by omega, fun j hj => by obtain ⟨v, v1, v2⟩ := y2 j hj; exact ⟨v, by simpa using v1, v2⟩⟩
theorem OpensB.map {t : TypeId} {α β : Type} {sz : Nat} {av : α → Nat → AV} {av' : β → Nat → AV} {ok : α → Prop} {ok' : β → Prop} {bk : α → Nat} {bk' : β → Nat} (O : OpensB enc P W t α sz av ok bk) (f : α → β)
    (h1 : ∀ y j, ok y → j < sz → ∀ h D u, R h D noMu (av y j) u → R h D noMu (av' (f y) j) u) (h2 : ∀ y, ok y → ok' (f y)) (h3 : ∀ y, ok y → bk' (f y) ≤ bk y) : OpensB enc P W t β sz av' ok' bk' := by
  refine ⟨O.size, fun fuel cs x h => ?_⟩
  obtain ⟨y, y1, y2, y3⟩ := O.go fuel cs x h
  refine ⟨f y, ⟨h2 y y1.1, by have := h3 y y1.1; have := y1.2; omega⟩, y2, fun j hj => ?_⟩
  obtain ⟨v, v1, v2, v3⟩ := y3 j hj
  exact ⟨v, v1, v2, h1 y j y1.1 hj _ _ _ v3⟩
theorem open_oneB {t : TypeId} {α : Type} {av : α → Nat → AV} {ok : α → Prop} {bk : α → Nat} {v : Value} {d : DataW H} {p : List MemPlace} (O : OpensB enc P W t α 1 av ok bk) (hv : v.cells = #[v]) (h : DataW.Trod enc P W 0 (fun _ => true) true t v d p) :
    ∃ y, (ok y ∧ bk y + 1 ≤ bulk d) ∧ R W.heap (DW W) noMu (av y 0) v := by
  obtain ⟨fuel, h⟩ := h
  obtain ⟨y, y1, y2, y3⟩ := O.go _ _ _ h
  obtain ⟨u, u1, u2, u3⟩ := y3 0 (by omega)
  rw [hv] at u1
  simp at u1
  subst u1
  exact ⟨y, y1, u3⟩
end
end Sy
end Go.Proofs.Ythlggigjnpldcaa
