/-The symbolic executor: values that are handed on (their blocks are frozen), new blocks. The symbolic executor: new blocks, calls. The symbolic executor: slices that are made, stores; and what stands between these and the texts behind.-/
import Derived.Test.YtogpolfhcbgcbaaGreatDoorM1
import Derived.Laws.MakeOwn
namespace Go.Proofs.YtogpolfhcbgcbaaGreatDoor
namespace Sy
open Go Go.RowKit
set_option linter.unusedSimpArgs false
set_option linter.unusedVariables false
section
variable {P : Program} {T : TT} {base : Nat} {M : Two} {W : World} {nt : Nat} {f : Nat -> Option AV} {g : Nat -> Option Ob} {c : Nat -> Bool} {a : Act} {w : World} {D : Nat -> Prop} {μ : Mu} {o : Oper}
def DF (D : Nat -> Prop) (μ : Mu) (ids : List Nat) : Nat -> Prop := fun b => D b \/ ∃ id z m, id ∈ ids /\ μ id = some (some (b, z, m))
abbrev yai (g : Nat -> Option Ob) (ids : List Nat) : Prop := ∀ id, id ∈ ids -> ∃ o, g id = some o /\ o ≠ .gone
theorem zwq (h : Sim base M W nt f g c a w D μ) {ob : Nat -> Option Ob} (hob : ∀ id z, ob id = some z -> g id = some z) {x x' : AV} {v : Value} (e : zqg std ob x = some x') (r : R w.heap D μ x v) {ids : List Nat} (hi : ∀ i, i ∈ ze1 x -> i ∈ ids) (hx : ∀ id sz off n cap, x ≠ .slc id sz off n cap) :
   R w.heap (DF D μ ids) zav x' v /\ yai g (ze1 x) := by
 have up : ∀ {y : AV} {u : Value}, R w.heap D zav y u -> R w.heap (DF D μ ids) zav y u := fun r => r.mono (fun _ _ => rfl) (fun _ h => .inl h) (fun _ _ h => h)
 cases x with
 | slc id sz off n cap => exact absurd rfl (hx id sz off n cap)
 | sl id sz off n =>
   simp only [zqg] at e
   split at e
   · rename_i sz' n' get hg
     have hg := hob _ _ hg
     split at e
     · rename_i hsz
       obtain rfl := za4 hsz
       cases e
       refine ⟨?_, fun i hi' => ?_⟩
       · cases r with
         | slv => exact .lst0 _ _ _ _ (fun _ => rfl)
         | sl0 => exact .lst0 _ _ _ _ (fun _ => rfl)
         | sl _ _ _ _ b z m cap hμ hn hz ho =>
           obtain ⟨hm, cc, t', fr, hh, hcs, _, hle, hrow⟩ := h.obs id _ _ hg hμ
           have key : ∀ i j, i < n -> j < sz -> ∃ y, cc[off * sz + i * sz + j]? = some y /\ one y /\ R w.heap D zav (get (off + i) j) y := by
             intro i j h1 h2
             obtain ⟨y, y1, y2, y3⟩ := hrow (off + i) j (by omega) h2
             rw [Nat.add_mul] at y1
             exact ⟨y, y1, y2, y3⟩
           refine .lst _ _ _ b (off * sz) cap (fun i j => cc.getD (off * sz + i * sz + j) undef) (.inr ⟨id, z, m, hi _ (by simp [ze1, zg8]), hμ⟩) hn (fun i j h1 h2 => ?_) (fun i j h1 h2 => ?_) (fun i j h1 h2 => ?_)
           · obtain ⟨y, y1, _⟩ := key i j h1 h2
             rw [zbs hh]; exact getD_some (Array.getElem?_eq_some_iff.1 y1).1
           · obtain ⟨y, y1, y2, _⟩ := key i j h1 h2
             rw [getD_some (Array.getElem?_eq_some_iff.1 y1).1] at y1; cases y1; exact y2
           · obtain ⟨y, y1, _, y3⟩ := key i j h1 h2
             rw [getD_some (Array.getElem?_eq_some_iff.1 y1).1] at y1; cases y1; exact up y3
       · simp [ze1, zg8] at hi'; subst hi'; exact ⟨_, hg, by simp⟩
     · cases e
   · cases e
 | ref id off =>
   simp only [zqg] at e
   split at e
   · rename_i cs hg
     have hg := hob _ _ hg
     split at e
     · rename_i hf
       cases e
       refine ⟨?_, fun i hi' => by simp [ze1, zg8] at hi'; subst hi'; exact ⟨_, hg, by simp⟩⟩
       cases r with
       | ref _ _ b z m hμ =>
         obtain ⟨cc, t', fr, hh, hcs, _, h1, e1, hr⟩ := h.obs id _ _ hg hμ
         refine .iptr _ _ b off (fun j => cc.getD (off + j) undef) (.inr ⟨id, z, m, hi _ (by simp [ze1, zg8]), hμ⟩) (fun j hj => ?_) (fun j hj => ?_) (fun j hj => ?_)
         · rw [zal] at hj; rw [zbs hh]; exact getD_some (by omega)
         · rw [zal] at hj; exact h1 (off + j) _ (getD_some (by omega))
         · rw [zal] at hj
           have h3 := hr (off + j) _ _ (zaz .dead cs (off + j) (by omega)) (getD_some (by omega))
           exact up (zdm h3 (zd1 hf _ _ (zaz .dead cs (off + j) (by omega))))
     · cases e
   · rename_i sz n get hg
     have hg := hob _ _ hg
     split at e
     · cases e
       refine ⟨?_, fun i hi' => by simp [ze1, zg8] at hi'; subst hi'; exact ⟨_, hg, by simp⟩⟩
       cases r with
       | ref _ _ b z m hμ =>
         obtain ⟨hm, cc, t', fr, hh, hcs, _, hle, hrow⟩ := h.obs id _ _ hg hμ
         have key : ∀ q, q < n * sz -> ∃ y, cc[q]? = some y /\ one y /\ R w.heap D zav (yal get sz q) y := by
           intro q hq
           have hs0 : 0 < sz := by
             rcases Nat.eq_zero_or_pos sz with h0 | h0
             · rw [h0] at hq; omega
             · exact h0
           obtain ⟨y, hy1, hy2, hy3⟩ := hrow (q / sz) (q % sz) (Nat.div_lt_of_lt_mul (by rw [Nat.mul_comm]; omega)) (Nat.mod_lt _ hs0)
           have e3 : q / sz * sz + q % sz = q := by rw [Nat.mul_comm]; exact Nat.div_add_mod q sz
           rw [e3] at hy1
           rw [ykf _ _ _ hs0]
           exact ⟨y, hy1, hy2, hy3⟩
         refine .iptr _ _ b 0 (fun j => cc.getD j undef) (.inr ⟨id, z, m, hi _ (by simp [ze1, zg8]), hμ⟩) (fun j hj => ?_) (fun j hj => ?_) (fun j hj => ?_)
         · obtain ⟨y, y1, _⟩ := key j hj
           rw [zbs hh, Nat.zero_add]; exact getD_some (Array.getElem?_eq_some_iff.1 y1).1
         · obtain ⟨y, y1, y2, _⟩ := key j hj
           rw [getD_some (Array.getElem?_eq_some_iff.1 y1).1] at y1; cases y1; exact y2
         · obtain ⟨y, y1, _, y3⟩ := key j hj
           rw [getD_some (Array.getElem?_eq_some_iff.1 y1).1] at y1; cases y1; exact up y3
     · cases e
   · cases e
 | eref id sz i off =>
   simp only [zqg] at e
   split at e
   · rename_i sz' n get hg
     have hg := hob _ _ hg
     split at e
     · rename_i hsz
       obtain rfl := za4 hsz
       cases e
       refine ⟨?_, fun i hi' => by simp [ze1, zg8] at hi'; subst hi'; exact ⟨_, hg, by simp⟩⟩
       cases r with
       | eref _ _ _ _ b z m hμ hi' =>
         obtain ⟨hm, cc, t', fr, hh, hcs, _, hle, hrow⟩ := h.obs id _ _ hg hμ
         have key : ∀ j, j < sz - off -> ∃ y, cc[i * sz + off + j]? = some y /\ one y /\ R w.heap D zav (get i (off + j)) y := by
           intro j hj
           obtain ⟨y, hy1, hy2, hy3⟩ := hrow i (off + j) (by omega) (by omega)
           rw [<- Nat.add_assoc] at hy1
           exact ⟨y, hy1, hy2, hy3⟩
         refine .iptr _ _ b (i * sz + off) (fun j => cc.getD (i * sz + off + j) undef) (.inr ⟨id, z, m, hi _ (by simp [ze1, zg8]), hμ⟩) (fun j hj => ?_) (fun j hj => ?_) (fun j hj => ?_)
         · obtain ⟨y, y1, _⟩ := key j hj
           rw [zbs hh]; exact getD_some (Array.getElem?_eq_some_iff.1 y1).1
         · obtain ⟨y, y1, y2, _⟩ := key j hj
           rw [getD_some (Array.getElem?_eq_some_iff.1 y1).1] at y1; cases y1; exact y2
         · obtain ⟨y, y1, _, y3⟩ := key j hj
           rw [getD_some (Array.getElem?_eq_some_iff.1 y1).1] at y1; cases y1; exact up y3
     · cases e
   · cases e
 | fn k xs ys =>
   simp only [zqg] at e
   split at e
   · rename_i hf
     cases e
     refine ⟨up (zdm r hf), ?_⟩
     have none0 : ∀ l : List AV, zid l = true -> zu1 l = [] := by
       intro l
       induction l with
       | nil => intro _; rfl
       | cons y l ih =>
         intro hl
         simp only [zid] at hl
         split at hl
         · rename_i hy
           simp only [zu1, ih hl]
           cases y <;> first | rfl | cases hy
         · cases hl
     simp only [zm7] at hf
     split at hf
     · rename_i hx
       intro i hi'
       simp [ze1, none0 _ hx, none0 _ hf, zcb] at hi'
     · cases hf
   · cases e
 | agg cs => cases e
 | tup cs => cases e
 | mp id =>
   simp only [zqg] at e
   split at e
   · rename_i kk n has val hg
     have hg := hob _ _ hg
     cases e
     cases r with
     | mp _ b z m hμ =>
       obtain ⟨es, clock, kf, hb, hn, hk, hr⟩ := h.obs id _ _ hg hμ
       refine ⟨.mpi _ _ _ _ b es clock kf (.inr ⟨id, z, m, hi _ (by simp [ze1, zg8]), hμ⟩) hb hn hk (fun i x hx => up (hr i x hx)), fun i hi' => ?_⟩
       simp [ze1, zg8] at hi'; subst hi'; exact ⟨_, hg, by simp⟩
   · cases e
 | bidx => cases e
 | mpi kk n has val => cases e; exact ⟨up (zb7 r rfl), fun i hi' => by simp [ze1, zg8] at hi'⟩
 | dead => cases e; exact ⟨.dead _, fun i hi' => by simp [ze1, zg8] at hi'⟩
 | bool b => cases e; exact ⟨up (zb7 r rfl), fun i hi' => by simp [ze1, zg8] at hi'⟩
 | int k n => cases e; exact ⟨up (zb7 r rfl), fun i hi' => by simp [ze1, zg8] at hi'⟩
 | str l => cases e; exact ⟨up (zb7 r rfl), fun i hi' => by simp [ze1, zg8] at hi'⟩
 | flt k b => cases e; exact ⟨up (zb7 r rfl), fun i hi' => by simp [ze1, zg8] at hi'⟩
 | cpx k a b => cases e; exact ⟨up (zb7 r rfl), fun i hi' => by simp [ze1, zg8] at hi'⟩
 | nilp => cases e; exact ⟨up (zb7 r rfl), fun i hi' => by simp [ze1, zg8] at hi'⟩
 | nilm => cases e; exact ⟨up (zb7 r rfl), fun i hi' => by simp [ze1, zg8] at hi'⟩
 | nilf => cases e; exact ⟨up (zb7 r rfl), fun i hi' => by simp [ze1, zg8] at hi'⟩
 | nils => cases e; exact ⟨up (zb7 r rfl), fun i hi' => by simp [ze1, zg8] at hi'⟩
 | nili => cases e; exact ⟨up (zb7 r rfl), fun i hi' => by simp [ze1, zg8] at hi'⟩
 | ifb b => cases e; exact ⟨up (zb7 r rfl), fun i hi' => by simp [ze1, zg8] at hi'⟩
 | emp => cases e; exact ⟨up (zb7 r rfl), fun i hi' => by simp [ze1, zg8] at hi'⟩
 | emz => cases e; exact ⟨up (zb7 r rfl), fun i hi' => by simp [ze1, zg8] at hi'⟩
 | lst sz n get => cases e; exact ⟨up (zb7 r rfl), fun i hi' => by simp [ze1, zg8] at hi'⟩
 | iptr n get => cases e; exact ⟨up (zb7 r rfl), fun i hi' => by simp [ze1, zg8] at hi'⟩
 | lstx sz n get => cases e; exact ⟨up (zb7 r rfl), fun i hi' => by simp [ze1, zg8] at hi'⟩
 | arr n get => cases e; exact ⟨up (zb7 r rfl), fun i hi' => by simp [ze1, zg8] at hi'⟩
theorem ztz (h : Sim base M W nt f g c a w D μ) {ob : Nat -> Option Ob} (hob : ∀ id z, ob id = some z -> g id = some z) {x x' : AV} {v : Value} (e : zqg std ob x = some x') (r : R w.heap D μ x v) {ids : List Nat} (hi : ∀ i, i ∈ ze1 x -> i ∈ ids) :
   R w.heap (DF D μ ids) zav x' v /\ yai g (ze1 x) := by
 by_cases hx : ∃ id sz off n cap, x = .slc id sz off n cap
 · obtain ⟨id, sz, off, n, cap, rfl⟩ := hx
   exact zwq (x := .sl id sz off n) h hob e r.less hi (fun _ _ _ _ _ h => by cases h)
 · exact zwq h hob e r hi (fun id sz off n cap h => hx ⟨id, sz, off, n, cap, h⟩)
theorem zny {ob : Nat -> Option Ob} (hob : ∀ id z, ob id = some z -> g id = some z) {x x' : AV} (e : zqg std ob x = some x') : yai g (ze1 x) := by
 intro i hi'
 cases x with
 | sl id sz off n =>
   simp [ze1, zg8] at hi'; subst hi'
   simp only [zqg] at e
   split at e
   · rename_i hg; exact ⟨_, hob _ _ hg, by simp⟩
   · cases e
 | slc id sz off n cap =>
   simp [ze1, zg8] at hi'; subst hi'
   simp only [zqg] at e
   split at e
   · rename_i hg; exact ⟨_, hob _ _ hg, by simp⟩
   · cases e
 | ref id off =>
   simp [ze1, zg8] at hi'; subst hi'
   simp only [zqg] at e
   split at e
   · rename_i hg; exact ⟨_, hob _ _ hg, by simp⟩
   · rename_i hg; exact ⟨_, hob _ _ hg, by simp⟩
   · cases e
 | eref id sz j off =>
   simp [ze1, zg8] at hi'; subst hi'
   simp only [zqg] at e
   split at e
   · rename_i hg; exact ⟨_, hob _ _ hg, by simp⟩
   · cases e
 | mp id =>
   simp [ze1, zg8] at hi'; subst hi'
   simp only [zqg] at e
   split at e
   · rename_i hg; exact ⟨_, hob _ _ hg, by simp⟩
   · cases e
 | bidx => cases e
 | fn k xs ys =>
   simp only [zqg] at e
   split at e
   · rename_i hf
     have none0 : ∀ l : List AV, zid l = true -> zu1 l = [] := by
       intro l
       induction l with
       | nil => intro _; rfl
       | cons y l ih =>
         intro hl
         simp only [zid] at hl
         split at hl
         · rename_i hy
           simp only [zu1, ih hl]
           cases y <;> first | rfl | cases hy
         · cases hl
     simp only [zm7] at hf
     split at hf
     · rename_i hx
       simp [ze1, none0 _ hx, none0 _ hf, zcb] at hi'
     · cases hf
   · cases e
 | _ => simp [ze1, zg8] at hi'
theorem zm3 (h : Sim base M W nt f g c a w D μ) {ob : Nat -> Option Ob} (hob : ∀ id z, ob id = some z -> g id = some z) : ∀ {xs xs' : List AV}, immL std ob xs = some xs' -> ∀ {ids : List Nat}, (∀ i, i ∈ zrk xs -> i ∈ ids) ->
   xs'.length = xs.length /\ yai g (zrk xs) /\ ∀ (i : Nat) x x' v, xs[i]? = some x -> xs'[i]? = some x' -> R w.heap D μ x v -> R w.heap (DF D μ ids) zav x' v
 | [], xs', e, ids, hi => by
   cases e
   exact ⟨rfl, fun i hi' => by simp [zrk] at hi', fun i x x' v hx => by simp at hx⟩
 | x :: xs, xs', e, ids, hi => by
   simp only [immL] at e
   split at e
   · rename_i y hy
     split at e
     · rename_i ys hys
       cases e
       have hi1 : ∀ i, i ∈ ze1 x -> i ∈ ids := fun i h => hi i (by simp [zrk, zau, h])
       have hi2 : ∀ i, i ∈ zrk xs -> i ∈ ids := fun i h => hi i (by simp [zrk, zau, h])
       obtain ⟨l1, l2, l3⟩ := zm3 h hob hys hi2
       refine ⟨by simp [l1], fun i hi' => ?_, fun i z z' v hz hz' r => ?_⟩
       · simp only [zrk, zau, List.mem_append] at hi'
         rcases hi' with hi' | hi'
         · exact zny hob hy i hi'
         · exact l2 i hi'
       · cases i with
         | zero => simp at hz hz'; subst hz; subst hz'; exact (ztz h hob hy r hi1).1
         | succ i => exact l3 i z z' v (by simpa using hz) (by simpa using hz') r
     · cases e
   · cases e
theorem yej (h : Sim base M W nt f g c a w D μ) {ob : Nat -> Option Ob} (hob : ∀ id z, ob id = some z -> g id = some z) {x x' : AV} (e : yp9 std ob x = some x') {ids : List Nat} (hi : ∀ i, i ∈ zwu x -> i ∈ ids) :
   yai g (zwu x) /\ ∀ v, R w.heap D μ x v -> R w.heap (DF D μ ids) zav x' v := by
 cases x with
 | agg cs =>
   simp only [yp9] at e
   split at e
   · rename_i ds hds
     cases e
     obtain ⟨l1, l2, l3⟩ := zm3 h hob hds hi
     refine ⟨l2, fun v r => ?_⟩
     obtain ⟨us, rfl, h1, e1, hr⟩ := r.inv_agg
     refine .agg _ _ (by rw [l1, e1]) h1 (fun i x' v hx' hv => ?_)
     have hlt : i < cs.length := by rw [<- l1]; exact (List.getElem?_eq_some_iff.1 hx').1
     exact l3 i cs[i] x' v (by simp [hlt]) hx' (hr i _ v (by simp [hlt]) hv)
   · cases e
 | fn k xs ys =>
   simp only [yp9] at e
   split at e
   · rename_i xs' hxs
     split at e
     · rename_i ys' hys
       cases e
       obtain ⟨l1, l2, l3⟩ := zm3 h hob hxs (ids := ids) (fun i h => hi i (by simp [zwu, zau, h]))
       obtain ⟨m1, m2, m3⟩ := zm3 h hob hys (ids := ids) (fun i h => hi i (by simp [zwu, zau, h]))
       refine ⟨fun i hi' => ?_, fun v r => ?_⟩
       · simp only [zwu, zau, List.mem_append] at hi'
         rcases hi' with hi' | hi'
         · exact l2 i hi'
         · exact m2 i hi'
       · cases r with
         | fn _ _ _ vs us e1 e2 h1 h2 =>
           refine .fn _ _ _ _ _ (by rw [l1, e1]) (by rw [m1, e2]) (fun i x' v hx' hv => ?_) (fun i x' v hx' hv => ?_)
           · have hlt : i < xs.length := by rw [<- l1]; exact (List.getElem?_eq_some_iff.1 hx').1
             exact l3 i xs[i] x' v (by simp [hlt]) hx' (h1 i _ v (by simp [hlt]) hv)
           · have hlt : i < ys.length := by rw [<- m1]; exact (List.getElem?_eq_some_iff.1 hx').1
             exact m3 i ys[i] x' v (by simp [hlt]) hx' (h2 i _ v (by simp [hlt]) hv)
     · cases e
   · cases e
 | tup cs => (simp only [yp9, zqg] at e; cases e)
 | _ => (simp only [yp9] at e; exact ⟨zny hob e, fun v r => (ztz h hob e r hi).1⟩)
theorem zkn (h : Sim base M W nt f g c a w D μ) {ob : Nat -> Option Ob} (hob : ∀ id z, ob id = some z -> g id = some z) : ∀ {xs xs' : List AV}, immVs std ob xs = some xs' -> ∀ {ids : List Nat}, (∀ i, i ∈ zdl xs -> i ∈ ids) ->
   xs'.length = xs.length /\ yai g (zdl xs) /\ ∀ (i : Nat) x x' v, xs[i]? = some x -> xs'[i]? = some x' -> R w.heap D μ x v -> R w.heap (DF D μ ids) zav x' v
 | [], xs', e, ids, hi => by
   cases e
   exact ⟨rfl, fun i hi' => by simp [zdl] at hi', fun i x x' v hx => by simp at hx⟩
 | x :: xs, xs', e, ids, hi => by
   simp only [immVs] at e
   split at e
   · rename_i y hy
     split at e
     · rename_i ys hys
       cases e
       have hi1 : ∀ i, i ∈ zwu x -> i ∈ ids := fun i h => hi i (by simp [zdl, zau, h])
       have hi2 : ∀ i, i ∈ zdl xs -> i ∈ ids := fun i h => hi i (by simp [zdl, zau, h])
       obtain ⟨l1, l2, l3⟩ := zkn h hob hys hi2
       obtain ⟨v1, v2⟩ := yej h hob hy hi1
       refine ⟨by simp [l1], fun i hi' => ?_, fun i z z' v hz hz' r => ?_⟩
       · simp only [zdl, zau, List.mem_append] at hi'
         rcases hi' with hi' | hi'
         · exact v1 i hi'
         · exact l2 i hi'
       · cases i with
         | zero => simp at hz hz'; subst hz; subst hz'; exact v2 v r
         | succ i => exact l3 i z z' v (by simpa using hz) (by simpa using hz') r
     · cases e
   · cases e
end
end Sy
end Go.Proofs.YtogpolfhcbgcbaaGreatDoor
namespace Go.Proofs.YtogpolfhcbgcbaaGreatDoor
namespace Sy
open Go Go.RowKit
set_option linter.unusedSimpArgs false
set_option linter.unusedVariables false
theorem zik (n : Nat) : ym2 n (0, 0) := fun o _ => by omega
theorem zfq (z : List AV) : ∀ n, (zee z n).length = n * z.length
 | 0 => by simp [zee]
 | n + 1 => by rw [zee, zau, List.length_append, zfq z n, Nat.add_mul]; omega
theorem zhp (z : List AV) : ∀ n i j, i < n -> j < z.length -> (zee z n)[i * z.length + j]? = z[j]?
 | n + 1, 0, j, _, hj => by rw [zee, zau]; simp [List.getElem?_append_left hj]
 | n + 1, i + 1, j, hi, hj => by
   rw [zee, zau, List.getElem?_append_right (by rw [Nat.add_mul]; omega)]
   rw [show (i + 1) * z.length + j - z.length = i * z.length + j by rw [Nat.add_mul]; omega]
   exact zhp z n i j (by omega) hj
theorem yce {x y : AV} (h : ycf x y = true) : x = y := by
 unfold ycf at h
 split at h
 · rw [of_decide_eq_true h]
 · split at h
   · rename_i hk; rw [of_decide_eq_true hk, of_decide_eq_true h]
   · cases h
 · rw [of_decide_eq_true h]
 all_goals first | rfl | cases h
theorem znc : ∀ {xs ys : List AV}, zot xs ys = true -> xs = ys
 | [], [], _ => rfl
 | x :: xs, y :: ys, h => by
   simp only [zot] at h
   split at h
   · rename_i h1
     rw [yce h1, znc h]
   · cases h
section
variable {P : Program} {T : TT} {base : Nat} {M : Two} {W : World} {nt : Nat} {f : Nat -> Option AV} {g : Nat -> Option Ob} {c : Nat -> Bool} {a : Act} {w : World} {D : Nat -> Prop} {μ : Mu} {o : Oper}
theorem zc5 {b : Bool} {x : Option Nat} {d : Nat} (e : cond b x none = some d) : b = true /\ x = some d := by cases b <;> simp_all
variable (h : Sim base M W nt f g c a w D μ) (hd : ∀ d, o.dst = some d -> d < nt)
include h hd
theorem zk0 {d : Nat} (hdst : o.dst = some d) (hnew : g d = none) (cs : Array Value) (t : TypeId) (ob : Ob) (m : Nat) (hne : ob ≠ .gone) (hok : zj8 (w.alloc (.cells cs t)).heap D μ ob (some (w.heap.size, cs.size, m)))
   {v : AV} {u : Value} (run : (execOp a.eval o).run P w = .ok (.value u) (w.alloc (.cells cs t))) (r : ∀ D' μ', μ' d = some (some (w.heap.size, cs.size, m)) -> R (w.alloc (.cells cs t)).heap D' μ' v u) :
   Adv P base M W nt f g c o a w v [(d, ob)] [] := fun K Q hK => by
 unfold Oper.wp
 rw [run]
 have h1 := h.new (hd _ hdst) hnew ob cs t m hne hok
 exact hK _ _ ⟨_, _, h1.put hd (r _ _ (by simp))⟩
omit hd in
theorem ymu {xs : List AV} {C : Array Value} {t : TypeId} (h1 : ones C) (r : RL w.heap D μ xs C) : zj8 (w.alloc (.cells C t)).heap D μ (.box t xs) (some (w.heap.size, C.size, 0)) := by
 refine ⟨C, t, (0, 0), heap_alloc_new _ _, rfl, ⟨zik _, rfl⟩, h1, r.1, fun i x v hx hv => (r.2 i x v hx hv).mono (fun b hb => Below.heap_alloc _ _ _ (h.dlt b hb)) (fun _ h => h) (fun _ _ h => h)⟩
omit hd in
theorem zk4 {sz n : Nat} {get : Nat -> Nat -> AV} {C : Array Value} {t : TypeId} (hsz : n * sz <= C.size) (h1 : ones C) (r : ∀ i j, i < n -> j < sz -> ∃ v, C[i * sz + j]? = some v /\ one v /\ R w.heap D zav (get i j) v) :
   zj8 (w.alloc (.cells C t)).heap D μ (.row t sz n get) (some (w.heap.size, C.size, n)) := by
 refine ⟨rfl, C, t, (0, 0), heap_alloc_new _ _, rfl, ⟨zik _, rfl, h1, fun _ => zik _⟩, hsz, fun i j hi hj => ?_⟩
 obtain ⟨v, v1, v2, v3⟩ := r i j hi hj
 exact ⟨v, v1, v2, v3.mono (fun b hb => Below.heap_alloc _ _ _ (h.dlt b hb)) (fun _ h => h) (fun _ _ h => h)⟩
theorem zye (hT : zbw P T) {t : TypeId} (e : o.op = .alloc t) : zc7 P base M W nt f g c o a w (ygi T o.dst t (zdi g o.op o.dst)) := by
 unfold ygi
 split
 · rename_i d hc
   obtain ⟨hn, hdst⟩ := zc5 hc
   have hnew : g d = none := by
     simp only [zdi, e, zcq, hdst] at hn
     cases hg : g d with
     | none => rfl
     | some _ => rw [hg] at hn; cases hn
   split
   · rename_i i hi
     have ok := hT t i hi
     obtain ⟨z, z1, z2, z3, z4⟩ := ok.zeroV
     have run : (execOp a.eval o).run P w = .ok (.value (.pointer (some ⟨w.heap.size, 0, none⟩))) (w.alloc (.cells z.cells t)) := by
       unfold execOp
       rw [e]
       simp [Instr.alloc, z1, newVar, newRow]
     have okk := ok.k
     split
     · rename_i n e' esz hk
       rw [hk] at okk
       split
       · rename_i ei hei
         split
         · rename_i hz hsz hfr
           have hz := znc hz
           have hsz := za4 hsz
           rw [zal] at hsz
           have r := z4 w.heap D μ
           have hl : i.zero.length = n * esz := by rw [hz, zfq, hsz]
           refine zk0 h hd hdst hnew z.cells t _ n (by simp) (zk4 h (by rw [<- r.1, hl]; omega) z2 (fun i' j hi' hj => ?_)) run (fun D' μ' hm => .ref _ _ _ _ _ hm)
           have hx : i.zero[i' * esz + j]? = some (zbn .dead ei.zero j) := by
             rw [hz, <- hsz, zhp _ _ _ _ hi' (by omega)]
             exact zaz _ _ _ (by omega)
           have hlt : i' * esz + j < z.cells.size := by rw [<- r.1]; exact (List.getElem?_eq_some_iff.1 hx).1
           exact ⟨_, getD_some hlt, z2 _ _ (getD_some hlt), zdm (r.2 _ _ _ hx (getD_some hlt)) (zd1 hfr _ _ (zaz _ _ _ (by omega)))⟩
         · trivial
       · trivial
     · exact zk0 h hd hdst hnew z.cells t (.box t i.zero) 0 (by simp) (ymu h z2 (z4 _ _ _)) run (fun D' μ' hm => .ref _ _ _ _ _ hm)
   · trivial
 · trivial
theorem yi2 (hT : zbw P T) {t : TypeId} {x : Operand} (e : o.op = .box t x) {vals : List AV} (hv : Ops w.heap D μ a [x] vals) : zc7 P base M W nt f g c o a w (cBox T std o.dst t (zdi g o.op o.dst) vals) := by
 match vals, hv with
 | [v], ⟨hv, _⟩ =>
   unfold cBox
   simp only
   split
   · rename_i d hc
     obtain ⟨hn, hdst⟩ := zc5 hc
     have hnew : g d = none := by
       simp only [zdi, e, zcq, hdst] at hn
       cases hg : g d with
       | none => rfl
       | some _ => rw [hg] at hn; cases hn
     split
     · rename_i i hi
       split
       · rename_i hsz hs
         have hsz := za4 hsz
         rw [zal] at hsz
         have rc := zmh hv hs
         have hlen := rc.len
         have run : (execOp a.eval o).run P w = .ok (.value (.pointer (some ⟨w.heap.size, 0, none⟩))) (w.alloc (.cells (a.eval x).cells t)) := by
           unfold execOp
           rw [e]
           simp [Instr.box, newVar, newRow]
         have h1 : ones (a.eval x).cells := fun j u hu => by
           have hlt : j < v.cells.length := by rw [hlen]; have := (Array.getElem?_eq_some_iff.1 hu).1; simpa using this
           exact (rc.get j v.cells[j] u (by simp [hlt]) (by simpa using hu)).2
         have hr : RL w.heap D μ v.cells (a.eval x).cells := ⟨by rw [hlen]; simp, fun j y u hy hu => (rc.get j y u hy (by simpa using hu)).1⟩
         split
         · rename_i n e' esz hk
           split
           · rename_i hfr hne
             have hne := za4 hne
             refine zk0 h hd hdst hnew _ t _ n (by simp) (zk4 h (by rw [<- hr.1]; omega) h1 (fun i' j hi' hj => ?_)) run (fun D' μ' hm => .ref _ _ _ _ _ hm)
             have hx := zf3 (cs := v.cells) (sz := esz) (n := n) (by omega) hi' hj
             have hlt : i' * esz + j < (a.eval x).cells.size := by rw [<- hr.1]; exact (List.getElem?_eq_some_iff.1 hx).1
             exact ⟨_, getD_some hlt, h1 _ _ (getD_some hlt), zdm (hr.2 _ _ _ hx (getD_some hlt)) (zd1 hfr _ _ hx)⟩
           · trivial
         · exact zk0 h hd hdst hnew _ t (.box t v.cells) 0 (by simp) (ymu h h1 hr) run (fun D' μ' hm => .ref _ _ _ _ _ hm)
       · trivial
     · trivial
   · trivial
end
end Sy
end Go.Proofs.YtogpolfhcbgcbaaGreatDoor
namespace Go.Proofs.YtogpolfhcbgcbaaGreatDoor
namespace Sy
open Go Go.RowKit
set_option linter.unusedSimpArgs false
set_option linter.unusedVariables false
theorem zda : ∀ {l : List Value} {C : Array Value} {n : Nat}, ones C -> (∀ v ∈ l, one v) -> ones (zb9 C n l)
 | [], C, n, h, _ => h
 | v :: l, C, n, h, h1 => zda (l := l) (C := C.setIfInBounds n v) (n := n + 1) (ones.set h (h1 v (by simp)) n) fun x hx => h1 x (by simp [hx])
theorem RLL.ones {h : Array Obj} {D : Nat -> Prop} {μ : Mu} {xs : List AV} {vs : List Value} (r : RLL h D μ xs vs) : ∀ v ∈ vs, one v := by
 intro v hv
 obtain ⟨i, hi⟩ := List.getElem?_of_mem hv
 have hlt := (List.getElem?_eq_some_iff.1 hi).1
 have hl := r.len
 exact (r.get i _ v (List.getElem?_eq_getElem (by omega)) hi).2
theorem ydg {z : Array Value} {n : Nat} (h : ones z) (hz : n = 0 \/ 0 < z.size) : ones (madeCells z n) := by
 intro i v hv
 have : v ∈ madeCells z n := Array.mem_of_getElem? hv
 simp only [madeCells, Array.mem_map, Array.mem_range] at this
 obtain ⟨q, hq, rfl⟩ := this
 have hlt : q % z.size < z.size := Nat.mod_lt _ (by omega)
 rw [getElem!_pos z _ hlt]
 exact h (q % z.size) _ (by simp [hlt])
theorem zdz (P : Program) (b o : Nat) (t : TypeId) (fr : Nat × Nat) : ∀ (vs : List Value) (i : Nat) (C : Array Value) (w : World), w.heap[b]? = some (.cells C t fr) -> ym2 C.size fr -> o + i + vs.length <= C.size -> (∀ v ∈ vs, one v) ->
   (storeCells ⟨b, o, none⟩ vs i).run P w = .ok () (w.setRow b (zb9 C (o + i) vs))
 | [], i, C, w, hg, _, _, _ => by
   simp only [storeCells, zb9]
   rw [setRow_self w b C t fr hg]
   rfl
 | v :: rest, i, C, w, hg, hf, hl, h1 => by
   have hi : o + i < C.size := by simp at hl; omega
   have hcell : w.cell? ⟨b, o + i, none⟩ = some C[o + i] := by simp [World.cell?, hg, hi]
   have hfro : w.frozen? ⟨b, o + i, none⟩ = false := by
     have := hf (o + i) hi
     simp only [World.frozen?, hg]
     simp only [Bool.and_eq_false_iff, decide_eq_false_iff_not]
     omega
   have hst : (store ((⟨b, o, none⟩ : Addr).add i) v).run P w = .ok () (w.setRow b (C.setIfInBounds (o + i) v)) := by
     rw [zbe, run_store P w _ v _ (h1 v (by simp)), hcell]
     simp [hfro, setCell_eq_setRow w b (o + i) C t fr v hg]
   have ih := zdz P b o t fr rest (i + 1) (C.setIfInBounds (o + i) v) (w.setRow b (C.setIfInBounds (o + i) v)) (setRow_heap w b C _ t _ hg) (by simpa using hf) (by simp at hl |-; omega) (fun x hx => h1 x (by simp [hx]))
   simp only [storeCells, Sem.run_bind, hst, Result.andThen_ok, ih, setRow_setRow]
   rfl
theorem zk1 (w : World) (b k : Nat) (C : Array Value) (hk : k ≠ b) : (w.setRow b C).heap[k]? = w.heap[k]? := by
 simp only [World.setRow, Array.getElem?_modify]
 rw [if_neg (fun e => hk e.symm)]
theorem ze8 (w : World) (b : Nat) (C : Array Value) : (w.setRow b C).heap.size = w.heap.size := by simp [World.setRow]
theorem zf7 {α : Type} : ∀ (ys xs : List α) (n : Nat), (zgj xs n ys).length = xs.length
 | [], xs, n => rfl
 | y :: ys, xs, n => by rw [zgj, zf7 ys, zlv, List.length_set]
theorem zb6 : ∀ (l : List Value) (n : Nat) (C : Array Value) (k : Nat), k < C.size -> (zb9 C n l)[k]? = if n <= k /\ k < n + l.length then l[k - n]? else C[k]?
 | [], n, C, k, hk => by
   rw [if_neg (by simp only [List.length_nil]; omega), zb9]
 | x :: xs, n, C, k, hk => by
   rw [zb9, zb6 xs (n + 1) _ k (by simpa using hk)]
   by_cases h1 : n = k
   · subst h1
     rw [if_neg (by omega), if_pos ⟨by omega, by simp⟩, Array.getElem?_setIfInBounds, if_pos rfl, if_pos hk]
     simp
   · by_cases h2 : n + 1 <= k /\ k < n + 1 + xs.length
     · rw [if_pos h2, if_pos ⟨by omega, by simp; omega⟩]
       obtain ⟨q, hq⟩ : ∃ q, k - n = q + 1 := ⟨k - n - 1, by omega⟩
       rw [hq, show k - (n + 1) = q by omega]
       rfl
     · rw [if_neg h2, if_neg (by simp; omega), Array.getElem?_setIfInBounds, if_neg h1]
theorem zjp {α : Type} : ∀ (l C : List α) (n k : Nat), k < C.length -> (zgj C n l)[k]? = if n <= k /\ k < n + l.length then l[k - n]? else C[k]?
 | [], C, n, k, hk => by
   rw [if_neg (by simp only [List.length_nil]; omega), zgj]
 | x :: xs, C, n, k, hk => by
   rw [zgj, zlv, zjp xs _ (n + 1) k (by simpa using hk)]
   by_cases h1 : n = k
   · subst h1
     rw [if_neg (by omega), if_pos ⟨by omega, by simp⟩, List.getElem?_set, if_pos rfl, if_pos hk]
     simp
   · by_cases h2 : n + 1 <= k /\ k < n + 1 + xs.length
     · rw [if_pos h2, if_pos ⟨by omega, by simp; omega⟩]
       obtain ⟨q, hq⟩ : ∃ q, k - n = q + 1 := ⟨k - n - 1, by omega⟩
       rw [hq, show k - (n + 1) = q by omega]
       rfl
     · rw [if_neg h2, if_neg (by simp; omega), List.getElem?_set, if_neg h1]
theorem zrv {pl : Nat -> Option (Nat × Nat)} : ∀ (ps : List (Nat × Operand)) (vals : List AV) (cells : List AV) (cs : List AV), zrw pl cells ps vals = some cs -> cs.length = cells.length
 | [], [], cells, cs, e => by cases e; rfl
 | [], _ :: _, _, _, e => by cases e
 | (i, p) :: ps, [], _, _, e => by cases e
 | (i, p) :: ps, v :: vs, cells, cs, e => by
   simp only [zrw] at e
   split at e
   · split at e
     · split at e
       · rw [zrv ps vs _ cs e, zf7]
       · cases e
     · cases e
   · cases e
theorem zf2 {h : Array Obj} {D : Nat -> Prop} {μ : Mu} {x : AV} {v : Value} (r : R h D μ x v) : ∀ y, R h D μ (zhc std true x y) v := by
 induction r with
 | bool b => intro y; cases y <;> first | exact .bool _ | exact .dead _
 | int k n => intro y; cases y <;> first | exact .dead _ | skip
              rename_i k' m
              simp only [zhc]
              split
              · exact .int _ _
              · exact .dead _
 | str l s e => intro y; cases y <;> first | exact .str _ _ e | exact .dead _
 | cpx k a b => intro y; cases y <;> first | exact .dead _ | skip
                simp only [zhc]
                split
                · exact .cpx _ _ _
                · exact .dead _
 | nilp => intro y; cases y <;> first | exact .nilp | exact .dead _
 | nilm => intro y; cases y <;> first | exact .nilm | exact .dead _
 | nilf => intro y; cases y <;> first | exact .nilf | exact .dead _
 | nils => intro y; cases y <;> first | exact .nils | exact .lst0 _ _ _ _ (fun _ => rfl) | exact .dead _
 | nili => intro y; cases y <;> first | exact .nili | exact .dead _
 | ifn => intro y; cases y <;> first | exact .ifn | exact .dead _
 | ifs t p => intro y; cases y <;> first | exact .ifs _ _ | exact .dead _
 | emp a cap => intro y; cases y <;> exact .dead _
 | emz a => intro y; cases y <;> exact .dead _
 | lst0 sz get a cap hn => intro y; cases y <;> first | exact .lst0 _ _ _ _ hn | exact .dead _ | skip
                           simp only [zhc]
                           split
                           · exact .lst0 _ _ _ _ hn
                           · exact .dead _
 | lst sz n get b o cap vs hD hc hv h1 hr ih =>
   intro y
   cases y with
   | nils => exact .lst _ _ _ b o cap vs hD hc hv h1 hr
   | lst sz' n' get' =>
     simp only [zhc]
     split
     · exact .lst _ _ _ b o cap vs hD hc hv h1 hr
     · exact .dead _
   | _ => exact .dead _
 | _ => intro y; cases y <;> exact .dead _
theorem zd9 {h : Array Obj} {D : Nat -> Prop} {μ : Mu} {y : AV} {v : Value} (r : R h D μ y v) : ∀ x, R h D μ (zhc std false x y) v := by
 induction r with
 | bool b => intro x; cases x <;> first | exact .bool _ | exact .dead _
 | int k n => intro x; cases x <;> first | exact .dead _ | skip
              rename_i k' m
              simp only [zhc]
              split
              · rename_i hk
                rw [of_decide_eq_true hk]
                exact .int _ _
              · exact .dead _
 | str l s e => intro x; cases x <;> first | exact .str _ _ e | exact .dead _
 | cpx k a b => intro x; cases x <;> first | exact .dead _ | skip
                simp only [zhc]
                split
                · rename_i hk
                  rw [of_decide_eq_true hk]
                  exact .cpx _ _ _
                · exact .dead _
 | nilp => intro x; cases x <;> first | exact .nilp | exact .dead _
 | nilm => intro x; cases x <;> first | exact .nilm | exact .dead _
 | nilf => intro x; cases x <;> first | exact .nilf | exact .dead _
 | nils => intro x; cases x <;> first | exact .nils | exact .lst0 _ _ _ _ (fun _ => rfl) | exact .dead _
 | nili => intro x; cases x <;> first | exact .nili | exact .dead _
 | ifn => intro x; cases x <;> first | exact .ifn | exact .dead _
 | ifs t p => intro x; cases x <;> first | exact .ifs _ _ | exact .dead _
 | emp a cap => intro x; cases x <;> exact .dead _
 | emz a => intro x; cases x <;> exact .dead _
 | lst0 sz get a cap hn => intro x; cases x <;> first | exact .lst0 _ _ _ _ hn | exact .dead _ | skip
                           simp only [zhc]
                           split
                           · exact .lst0 _ _ _ _ hn
                           · exact .dead _
 | lst sz n get b o cap vs hD hc hv h1 hr ih =>
   intro x
   cases x with
   | nils => exact .lst _ _ _ b o cap vs hD hc hv h1 hr
   | lst sz' n' get' =>
     simp only [zhc]
     split
     · rename_i hk
       obtain rfl := of_decide_eq_true hk
       exact .lst _ _ _ b o cap vs hD hc hv h1 hr
     · exact .dead _
   | _ => exact .dead _
 | _ => intro x; cases x <;> exact .dead _
theorem zgz {e off n e' j : Nat} {cs : List AV} {get : Nat -> Nat -> AV} : over std e off n cs get e' j = if off <= j /\ j < off + n then zhc std (zat e' e) (zbn .dead cs (j - off)) (get e' j) else get e' j := by
 unfold over
 split
 · rename_i h1
   have h1 := zbh h1
   split
   · rename_i h2
     rw [if_pos ⟨h1, zd2 h2⟩]
     rfl
   · rename_i h2
     rw [if_neg]
     rintro ⟨_, h3⟩
     rw [show zbk j (off + n) = true by rw [zcn]; exact h3] at h2
     cases h2
 · rename_i h1
   rw [if_neg]
   rintro ⟨h3, _⟩
   rw [show zbx off j = true by rw [zed]; exact h3] at h1
   cases h1
section
variable {P : Program} {T : TT} {base : Nat} {M : Two} {W : World} {nt : Nat} {f : Nat -> Option AV} {g : Nat -> Option Ob} {c : Nat -> Bool} {a : Act} {w : World} {D : Nat -> Prop} {μ : Mu} {o : Oper}
theorem Sim.turn (h : Sim base M W nt f g c a w D μ) {id b z m : Nat} {ob ob' : Ob} {w' : World} (hμ : μ id = some (some (b, z, m))) (hg : g id = some ob) (hne : ob ≠ .gone) (_ : True)
   (hc : c id = false) (hos : w'.os = w.os) (htape : w'.tape = w.tape) (hout : w'.output = w.output) (hsz : w'.heap.size = w.heap.size) (hother : ∀ k, k ≠ b -> w'.heap[k]? = w.heap[k]?)
   (hok : (∀ k, D k -> w'.heap[k]? = w.heap[k]?) -> zj8 w'.heap D μ ob' (some (b, z, m))) :
   Sim base M W nt f (zb5 g [(id, ob')]) c a w' D μ := by
 have hnD : ¬ D b := (h.kd id b (z, m) ob hμ hg hne).2 hc
 have hDk : ∀ k, D k -> w'.heap[k]? = w.heap[k]? := fun k hk => hother k (by rintro rfl; exact hnD hk)
 have hgp : ∀ i, zb5 g [(id, ob')] i = if i = id then some ob' else g i := by
   intro i
   by_cases e : i = id
   · subst e; simp [zb5, za3, za6]
   · simp [zb5, za3, zan (fun x => e x.symm : ¬ id = i), e]
 exact {
   os := hos.trans h.os, tape := htape.trans h.tape, output := hout.trans h.output
   size := by rw [hsz]; exact h.size
   bs := by rw [hsz]; exact h.bs
   old := fun k h1 h2 => by
     rw [hother k (by
       rintro rfl
       rcases (h.own id k _ hμ).2 with h3 | h3
       · omega
       · exact h2 h3)]
     exact h.old k h1 h2
   defers := h.defers, tmps := h.tmps
   slots := fun s v hv => (h.slots s v hv).mono hDk (fun _ h => h) (fun _ _ h => h)
   dlt := fun k hk => by rw [hsz]; exact h.dlt k hk
   low := h.low
   dom := fun i => by
     rw [hgp]
     by_cases e : i = id
     · subst e; simp [hμ]
     · simp only [if_neg e]; exact h.dom i
   obs := fun i o' x h1 h2 => by
     rw [hgp] at h1
     by_cases e : i = id
     · subst e
       rw [if_pos rfl] at h1; cases h1
       rw [hμ] at h2; cases h2
       exact hok hDk
     · rw [if_neg e] at h1
       refine (h.obs i o' x h1 h2).mono hDk (fun _ h => h) (fun _ _ h => h) (fun b' z' hx hne2 => hother b' ?_)
       rintro rfl
       subst hx
       exact e (h.inj i id b' z' (z, m) o' ob h2 hμ h1 hg hne2 hne)
   inj := fun i i' b1 z1 z2 o1 o2 h1 h2 h3 h4 h5 h6 => by
     rw [hgp] at h3 h4
     have k3 : ∃ o, g i = some o /\ o ≠ .gone := by
       by_cases e : i = id
       · subst e; exact ⟨ob, hg, hne⟩
       · rw [if_neg e] at h3; exact ⟨o1, h3, h5⟩
     have k4 : ∃ o, g i' = some o /\ o ≠ .gone := by
       by_cases e : i' = id
       · subst e; exact ⟨ob, hg, hne⟩
       · rw [if_neg e] at h4; exact ⟨o2, h4, h6⟩
     obtain ⟨p, p1, p2⟩ := k3
     obtain ⟨q, q1, q2⟩ := k4
     exact h.inj i i' b1 z1 z2 p q h1 h2 p1 q1 p2 q2
   own := fun i b1 z1 h1 => by rw [hsz]; exact h.own i b1 z1 h1
   kd := fun i b1 z1 o1 h1 h2 h3 => by
     rw [hgp] at h2
     by_cases e : i = id
     · subst e; exact h.kd i b1 z1 ob h1 hg hne
     · rw [if_neg e] at h2; exact h.kd i b1 z1 o1 h1 h2 h3
   ntb := h.ntb
   pin := h.pin
   gl := h.gl
   icy := fun i hi => by
     rw [hgp]
     by_cases e : i = id
     · rw [if_pos e]; simp
     · rw [if_neg e]; exact h.icy i hi }
theorem Sim.write (h : Sim base M W nt f g c a w D μ) {id b z m : Nat} {ob ob' : Ob} {C C' : Array Value} {t : TypeId} {fr : Nat × Nat} (hμ : μ id = some (some (b, z, m))) (hg : g id = some ob) (hne : ob ≠ .gone) (hne' : ob' ≠ .gone)
   (hc : c id = false) (hb : w.heap[b]? = some (.cells C t fr)) (hok : (∀ k, D k -> (w.setRow b C').heap[k]? = w.heap[k]?) -> zj8 (w.setRow b C').heap D μ ob' (some (b, z, m))) :
   Sim base M W nt f (zb5 g [(id, ob')]) c a (w.setRow b C') D μ :=
 h.turn hμ hg hne trivial hc rfl rfl rfl (ze8 w b C') (fun k hk => zk1 w b k C' hk) hok
variable (h : Sim base M W nt f g c a w D μ) (hd : ∀ d, o.dst = some d -> d < nt)
include h hd
theorem ybw (hT : zbw P T) {t n : Nat} {ps : Array (Nat × Operand)} (e : o.op = .buildSlice t n ps) {vals : List AV} (hv : Ops w.heap D μ a (ps.toList.map Prod.snd) vals) {ob : Nat -> Option Ob} (hob : ∀ id z, ob id = some z -> g id = some z) :
   zc7 P base M W nt f g c o a w (yqv T std o.dst t n ps.toList vals ob (zdi g o.op o.dst)) := by
 unfold yqv
 split
 · rename_i d hc
   obtain ⟨hn, hdst⟩ := zc5 hc
   have hnew : g d = none := by
     simp only [zdi, e, zcq, hdst] at hn
     cases hg : g d with
     | none => rfl
     | some _ => rw [hg] at hn; cases hn
   split
   · rename_i i hi
     split
     · rename_i e' esz eb hk
       have ok := (hT t i hi).k
       rw [hk] at ok
       obtain ⟨ok1, ok2⟩ := ok
       obtain ⟨ei', hei', hes⟩ := Option.map_eq_some_iff.1 ok2
       simp only [Prod.mk.injEq] at hes
       split
       · rename_i ei hei
         have oke := hT e' ei hei
         obtain ⟨ii, z, i1, i2, i3, i4, i5, i6⟩ := oke.info
         rw [hei'] at i1
         cases i1
         split
         · rename_i vals' hvals
           cases hle : zbx (n * esz) 16777216 with
           | false => rw [hle] at hvals; cases hvals
           | true =>
             rw [hle] at hvals
             have hle := zbh hle
             split
             · rename_i cs hcs
               cases hs : zfk vals' with
               | false => rw [hs] at hcs; cases hcs
               | true =>
                 rw [hs] at hcs
                 obtain ⟨l1, l2, l3⟩ := zkn h hob hvals (ids := zdl vals) (fun _ h => h)
                 have h' := h.freeze (zdl vals) l2
                 have hp : ∀ (qs : List (Nat × Operand)) (xs xs' : List AV), Ops w.heap D μ a (qs.map Prod.snd) xs -> xs'.length = xs.length -> (∀ (i : Nat) x x' v, xs[i]? = some x -> xs'[i]? = some x' -> R w.heap D μ x v -> R w.heap (DF D μ (zdl vals)) zav x' v) ->
                     Parts w.heap (DF D μ (zdl vals)) zav a qs xs' := by
                   intro qs
                   induction qs with
                   | nil => intro xs xs' hv hl hr; cases xs with
                     | nil => cases xs' with
                       | nil => exact trivial
                       | cons _ _ => simp at hl
                     | cons _ _ => exact hv.elim
                   | cons q qs ih => intro xs xs' hv hl hr; cases xs with
                     | nil => exact hv.elim
                     | cons x xs => cases xs' with
                       | nil => simp at hl
                       | cons x' xs' => exact ⟨hr 0 x x' _ rfl rfl hv.1, ih xs xs' hv.2 (by simpa using hl) (fun i y y' v hy hy' r => hr (i + 1) y y' v (by simpa using hy) (by simpa using hy') r)⟩
                 have hsz : z.cells.size = esz := by rw [i5, <- i2, hes.1]
                 have hzl : ei.zero.length = esz := by rw [(i6 w.heap D μ).1, hsz]
                 obtain ⟨C0, hC0⟩ : ∃ C0, C0 = (Array.range (n * esz)).map (fun q => z.cells[q % z.cells.size]!) := ⟨_, rfl⟩
                 have hC0s : C0.size = n * esz := by rw [hC0]; simp
                 have hget : ∀ q, q < n * esz -> C0[q]? = some (z.cells.getD (q % esz) undef) /\ q % esz < z.cells.size /\ (zee ei.zero n)[q]? = ei.zero[q % esz]? := by
                   intro q hq
                   have h0 : 0 < esz := by
                     rcases Nat.eq_zero_or_pos esz with h0 | h0
                     · rw [h0] at hq; omega
                     · exact h0
                   have h1 := Nat.mod_lt q h0
                   refine ⟨?_, by omega, ?_⟩
                   · rw [hC0]
                     have h2 : q % esz < z.cells.size := by omega
                     simp [hq, hsz, h2]
                     rw [getElem!_pos z.cells _ h2]
                     simp [h2]
                   · have := zhp ei.zero n (q / esz) (q % esz) (Nat.div_lt_of_lt_mul (by rw [Nat.mul_comm]; exact hq)) (by omega)
                     rw [hzl] at this
                     rw [<- this]
                     congr 1
                     rw [Nat.mul_comm]; exact (Nat.div_add_mod q esz).symm
                 have r0 : RL w.heap (DF D μ (zdl vals)) zav (zee ei.zero n) C0 := by
                   refine ⟨by rw [zfq, hzl, hC0s], fun q x v hx hv => ?_⟩
                   have hq : q < n * esz := by rw [<- hC0s]; exact (Array.getElem?_eq_some_iff.1 hv).1
                   obtain ⟨g1, g2, g3⟩ := hget q hq
                   rw [g1] at hv
                   cases hv
                   rw [g3] at hx
                   exact (i6 _ _ _).2 _ x _ hx (getD_some g2)
                 have o0 : ones C0 := by
                   intro q v hv
                   have hq : q < n * esz := by rw [<- hC0s]; exact (Array.getElem?_eq_some_iff.1 hv).1
                   obtain ⟨g1, g2, _⟩ := hget q hq
                   rw [g1] at hv
                   cases hv
                   exact i4 _ _ (getD_some g2)
                 obtain ⟨C', f1, f2, f3⟩ := zkq (h := w.heap) (D := DF D μ (zdl vals)) (μ := zav) ps.toList vals' _ C0 cs hcs hs (hp _ _ _ hv l1 l3) r0 o0
                 have hCs : cs.length = n * esz := by
                   rw [zrv ps.toList vals' _ cs hcs, zfq, hzl]
                 have run : (execOp a.eval o).run P w = .ok (.value (.slice (some ⟨w.heap.size, 0, none⟩) n n)) (w.alloc (.cells C' e')) := by
                   unfold execOp
                   rw [e]
                   have hso : ∀ w', (sizeOf e').run P w' = .ok esz w' := fun w' => by simp [sizeOf, typeInfo, program, Sem.run, hei', hes.1]
                   have hzv : ∀ w', (zeroValue e').run P w' = .ok z w' := fun w' => by simp [zeroValue, typeInfo, program, Sem.run, hei', i3]
                   have hf := f1
                   have hlim : ¬ (n * esz > 2 ^ 24) := by omega
                   by_cases h0 : n * esz = 0
                   · have hC00 : C0 = #[] := by apply Array.eq_empty_of_size_eq_zero; omega
                     have h00 : Array.map (fun _ => (default : Value)) (Array.range 0) = C0 := by rw [hC00]; simp
                     simp [Instr.buildSlice, run_underlying ok1, hso, h0, h00, hf, newRow]
                   · rw [hC0] at hf
                     simp only [Instr.buildSlice, Sem.run_bind, run_underlying ok1, Result.andThen_ok, hso, hlim, if_false, h0, hzv]
                     simp [hf, newRow, hzv]
                 have key := zk0 h' hd hdst hnew C' e' (.row e' esz n (zji std cs esz)) n (by simp) (zk4 h' (by rw [<- f2.1, hCs]; exact Nat.le_refl _) f3 (fun i' j hi' hj => by
                     have hx := zf3 (cs := cs) (sz := esz) (n := n) (by omega) hi' hj
                     have hlt : i' * esz + j < C'.size := by rw [<- f2.1]; exact (List.getElem?_eq_some_iff.1 hx).1
                     exact ⟨_, getD_some hlt, f3 _ _ (getD_some hlt), f2.2 _ _ _ hx (getD_some hlt)⟩))
                   (v := yni n d esz) run (fun D' μ' hm => by
                     unfold yni
                     split
                     · exact .emz _
                     · have := R.sl (h := (w.alloc (.cells C' e')).heap) (D := D') d esz 0 n w.heap.size C'.size n n hm (Nat.le_refl _) (by rw [<- f2.1, hCs]; simp) (by omega)
                       simpa using this)
                 exact key
             · trivial
         · trivial
       · trivial
     · trivial
   · trivial
 · trivial
theorem zyb (hT : zbw P T) {s t : TypeId} {x : Operand} (e : o.op = .convert s t x) (ht : zsq T t = true) {vals : List AV} (hv : Ops w.heap D μ a [x] vals) :
   zc7 P base M W nt f g c o a w (ygg T std o.dst s t (zdi g o.op o.dst) vals) := by
 match vals, hv with
 | [v], ⟨hx, _⟩ =>
   unfold ygg
   split
   · rename_i l he
     simp only [List.cons.injEq, and_true] at he
     subst he
     split
     · rename_i d hc
       obtain ⟨hn, hdst⟩ := zc5 hc
       have hnew : g d = none := by
         simp only [zdi, e, zcq, hdst] at hn
         cases hg : g d with
         | none => rfl
         | some _ => rw [hg] at hn; cases hn
       split
       · rename_i hs
         have hs' : P.underlying s = some .string := by
           unfold yu0 at hs
           split at hs
           · rename_i i hi
             have := (hT s i hi).k
             split at hs
             · rename_i hk; rw [hk] at this; exact this
             · cases hs
           · cases hs
         obtain ⟨el, ht1, ht2, ht3⟩ : ∃ el, P.underlying t = some (.slice el) /\ P.underlying el = some (.int .u8) /\ yqc T t = el := by
           unfold zsq at ht
           split at ht
           · rename_i i hi
             have := (hT t i hi).k
             split at ht
             · rename_i hk; rw [hk] at this; exact ⟨_, this.1, zhs hT ht, by simp [yqc, hi, hk]⟩
             · cases ht
           · cases ht
         obtain ⟨r, hr, hl⟩ := hx.inv_str
         have hrun := run_bytes_of_string (P := P) w s t el r hs' ht1 ht2
         have run : ∀ u w', (convert s t (a.eval x)).run P w = .ok u w' -> (execOp a.eval o).run P w = .ok (.value u) w' := by
           intro u w' hu; unfold execOp; rw [e]; simp [hu]
         have run := run _ _ (hr ▸ hrun)
         have hge := grownCap_ge w r.size 0 el
         have hrl : r.size = l.length := by rw [<- hl]; exact (Array.length_toList (xs := r.data)).symm
         generalize hC : bytesRow r (grownCap w r.size 0 el) = C at run
         have hds : r.data.size = r.size := rfl
         have hCs : C.size = grownCap w r.size 0 el := by rw [<- hC]; simp only [bytesRow, Array.size_append, Array.size_map, Array.size_replicate, hds]; omega
         rw [ht3]
         intro K Q hK
         unfold Oper.wp
         rw [run]
         have hnew' := h.drew.new (fr := (C.size, C.size + 1)) (hd _ hdst) hnew (.row el 1 l.length (fun i _ => .int .u8 (zae l i))) C el l.length (by simp) (by
           refine ⟨rfl, C, el, _, heap_alloc_new _ _, rfl, ⟨?_, rfl, ?_, fun h => by omega⟩, by omega, fun i j hi hj => ?_⟩
           · intro o' ho hx; simp only at hx; omega
           · intro i v hv
             rw [<- hC] at hv
             have hv := Array.mem_of_getElem? hv
             simp only [bytesRow, Array.mem_append, Array.mem_map, Array.mem_replicate] at hv
             rcases hv with ⟨q, _, rfl⟩ | ⟨_, rfl⟩ <;> rfl
           · have hj0 : j = 0 := by omega
             subst hj0
             refine ⟨_, ?_, ?_, .int .u8 (zae l i)⟩
             · rw [<- hC]
               have : i < r.data.size := by rw [show r.data.size = r.size from rfl, hrl]; exact hi
               simp only [bytesRow]
               rw [Array.getElem?_append_left (by simpa using this)]
               simp only [Nat.mul_one, Nat.add_zero]
               rw [Array.getElem?_map, Array.getElem?_eq_getElem this]
               simp only [Option.map_some, zae, <- hl]
               simp
               rw [Array.getElem?_eq_getElem this]
               rfl
             · rfl)
         refine hK _ _ ⟨_, _, hnew'.put hd (v := .sl d 1 0 l.length) ?_⟩
         have := R.sl (h := (w.drew.alloc (.cells C el (C.size, C.size + 1))).heap) (D := D) (μ := fun id => if id = d then some (some (w.drew.heap.size, C.size, l.length)) else μ id) d 1 0 l.length w.heap.size C.size l.length (grownCap w r.size 0 el) (by simp) (by omega) (by omega) (by omega)
         simpa [hrl] using this
       · trivial
     · trivial
   · trivial
theorem zsv (hT : zbw P T) {t : Nat} {x y : Operand} (e : o.op = .makeSlice t x y) {vals : List AV} (hv : Ops w.heap D μ a [x, y] vals) :
   zc7 P base M W nt f g c o a w (zur T std o.dst t (zdi g o.op o.dst) vals) := by
 match vals, hv with
 | [v, v'], ⟨hx, hy, _⟩ =>
   unfold zur
   split
   · rename_i k n k' cp he
     simp only [List.cons.injEq, and_true] at he
     obtain ⟨rfl, rfl⟩ := he
     split
     · rename_i d hc
       obtain ⟨hn, hdst⟩ := zc5 hc
       have hnew : g d = none := by
         simp only [zdi, e, zcq, hdst] at hn
         cases hg : g d with
         | none => rfl
         | some _ => rw [hg] at hn; cases hn
       split
       · rename_i sz ag ze e' esz eb eqf p1 p2 p3 hi
         obtain ⟨ok1, ok2⟩ := (hT t _ hi).k
         obtain ⟨ei', hei', hes⟩ := Option.map_eq_some_iff.1 ok2
         simp only [Prod.mk.injEq] at hes
         split
         · rename_i ei hei
           obtain ⟨ii, z, i1, i2, i3, i4, i5, i6⟩ := (hT e' ei hei).info
           rw [hei'] at i1
           cases i1
           split
           · rename_i hfr
             intro hb
             have hb' : ((0 <= n /\ n <= cp) /\ (eb : Int) * cp <= 140737488355328) /\ cp <= 9223372036854775807 := by simpa [L3, std, yw4] using hb
             obtain ⟨⟨⟨b1, b2⟩, b3⟩, b4⟩ := hb'
             have hr := run_make (P := P) w t e' ei' z ok1 hei' i3 k k' n cp b1 b2 (by rw [hes.2]; omega) b4
             have hsz : z.cells.size = esz := by rw [i5, <- i2, hes.1]
             have hzl : ei.zero.length = esz := by rw [(i6 w.heap D μ).1, hsz]
             have run : (execOp a.eval o).run P w = .ok (.value (.slice (some ⟨w.heap.size, 0, none⟩) n.toNat cp.toNat)) (w.alloc (.cells (madeCells z.cells (cp.toNat * ei'.size)) e')) := by
               unfold execOp
               rw [e]
               simp [hx.inv_int, hy.inv_int, hr]
             have hms : (madeCells z.cells (cp.toNat * ei'.size)).size = cp.toNat * esz := by simp [madeCells, hes.1]
             have hle : n.toNat * esz <= cp.toNat * esz := Nat.mul_le_mul_right _ (by omega)
             refine zk0 h hd hdst hnew _ e' _ n.toNat (by simp) (zk4 h (by rw [hms]; exact hle) (ydg i4 (by rcases Nat.eq_zero_or_pos z.cells.size with h0 | h0; (left; rw [hes.1, <- hsz, h0, Nat.mul_zero]); exact .inr h0)) (fun i' j hi' hj => ?_)) run (fun D' μ' hm => ?_)
             · have hq : i' * esz + j < cp.toNat * esz := by
                 have h1 : (i' + 1) * esz <= n.toNat * esz := Nat.mul_le_mul_right _ hi'
                 rw [Nat.add_mul] at h1
                 omega
               have hmod : (i' * esz + j) % esz = j := by rw [Nat.mul_comm, Nat.mul_add_mod, Nat.mod_eq_of_lt hj]
               have h2 : j < z.cells.size := by omega
               refine ⟨z.cells.getD j undef, ?_, i4 _ _ (getD_some h2), zdm ((i6 w.heap D μ).2 j _ _ (zaz .dead ei.zero j (by omega)) (getD_some h2)) (zd1 hfr _ _ (zaz _ _ _ (by omega)))⟩
               simp [madeCells, hes.1, hq, hsz, hmod]
               rw [getElem!_pos z.cells _ h2]
               simp [h2]
             · have := R.sl (h := (w.alloc (.cells (madeCells z.cells (cp.toNat * ei'.size)) e')).heap) (D := D') d esz 0 n.toNat w.heap.size _ n.toNat cp.toNat hm (by omega) (by rw [hms]; simp) (by omega)
               simpa [std] using this
           · trivial
         · trivial
       · trivial
     · trivial
   · trivial
theorem zxx (hT : zbw P T) {t : Nat} {x y : Operand} (e : o.op = .store t x y) {vals : List AV} (hv : Ops w.heap D μ a [x, y] vals) {ob : Nat -> Option Ob} (hob : ∀ id z, ob id = some z -> g id = some z) {ice : Nat -> Bool} (hice : ∀ id, ice id = false -> c id = false) :
   zc7 P base M W nt f g c o a w (yg0 T std t ob ice vals) := by
 match vals, hv with
 | [p, v], ⟨hp, hv, _⟩ =>
   unfold yg0
   simp only
   split
   · rename_i i hi
     have ok := hT t i hi
     split
     · rename_i hsz
       have hsz := za4 hsz
       rw [zal] at hsz
       have goD : zl8 v = true -> ∀ (D' : Nat -> Prop) (ids : List Nat), Sim base M W nt f g (zkv c ids) a w D' μ -> ∀ (id b z m off : Nat) (ob0 ob' : Ob) (C : Array Value) (t' : TypeId) (fr : Nat × Nat), a.eval x = .pointer (some ⟨b, off, none⟩) -> μ id = some (some (b, z, m)) -> g id = some ob0 -> ob0 ≠ .gone -> ob' ≠ .gone -> zkv c ids id = false ->
           w.heap[b]? = some (.cells C t' fr) -> ym2 C.size fr -> off + i.sz <= C.size ->
           (RLL w.heap D μ v.cells (a.eval y).cells.toList -> (∀ k, D' k -> (w.setRow b (zb9 C off (a.eval y).cells.toList)).heap[k]? = w.heap[k]?) -> zj8 (w.setRow b (zb9 C off (a.eval y).cells.toList)).heap D' μ ob' (some (b, z, m))) ->
           Adv P base M W nt f g c o a w .dead [(id, ob')] ids := by
         intro hs D' ids h' id b z m off ob0 ob' C t' fr hx hμ hg hne hne' hc hb hf hfit hok
         have rc := zmh hv hs
         have hlen := rc.len
         have hst := zdz P b off t' fr (a.eval y).cells.toList 0 C w hb hf (by rw [<- hlen]; omega) (fun u hu => by
           obtain ⟨j, hj⟩ := List.getElem?_of_mem hu
           have hlt : j < v.cells.length := by rw [hlen]; exact (List.getElem?_eq_some_iff.1 hj).1
           exact (rc.get j v.cells[j] u (by simp [hlt]) hj).2)
         have run : (execOp a.eval o).run P w = .ok .skip (w.setRow b (zb9 C off (a.eval y).cells.toList)) := by
           unfold execOp
           rw [e]
           have hs2 : ¬ ((a.eval y).cells.size ≠ i.sz) := by
             have : (a.eval y).cells.toList.length = i.sz := by rw [<- hlen, hsz]
             simpa using this
           simp only [Nat.add_zero] at hst
           simp [hx, Instr.storeAt, Instr.sureAddr, storeVar, ok.sizeOf]
           rw [if_pos (by simpa using hs2)]
           simp [hst]
         intro K Q hK
         unfold Oper.wp
         rw [run]
         have h1 := h'.write (C' := zb9 C off (a.eval y).cells.toList) hμ hg hne hne' hc hb (hok rc)
         exact hK _ _ ⟨_, _, h1.put hd (.dead _)⟩
       have go : zl8 v = true -> ∀ (id b z m off : Nat) (ob0 ob' : Ob) (C : Array Value) (t' : TypeId) (fr : Nat × Nat), a.eval x = .pointer (some ⟨b, off, none⟩) -> μ id = some (some (b, z, m)) -> g id = some ob0 -> ob0 ≠ .gone -> ob' ≠ .gone -> c id = false ->
           w.heap[b]? = some (.cells C t' fr) -> ym2 C.size fr -> off + i.sz <= C.size ->
           (RLL w.heap D μ v.cells (a.eval y).cells.toList -> (∀ k, D k -> (w.setRow b (zb9 C off (a.eval y).cells.toList)).heap[k]? = w.heap[k]?) -> zj8 (w.setRow b (zb9 C off (a.eval y).cells.toList)).heap D μ ob' (some (b, z, m))) ->
           Adv P base M W nt f g c o a w .dead [(id, ob')] [] := fun hs id b z m off ob0 ob' C t' fr hx hμ hg hne hne' hc => goD hs D [] (by rw [zes]; exact h) id b z m off ob0 ob' C t' fr hx hμ hg hne hne' (by rw [zes]; exact hc)
       cases hs : zl8 v with
       | false => trivial
       | true =>
         simp only [cond_true]
         split
         · rename_i id off
           split
           · rename_i hic
             have hic := hice _ hic
             split
             · rename_i cs hg
               have hg := hob _ _ hg
               split
               · rename_i hle
                 have hle := zbh hle
                 rw [zal] at hle
                 generalize hu : a.eval x = u at *
                 cases hp with
                 | ref _ _ b z m hμ =>
                   obtain ⟨C, t', fr, hh, hcs, hf, h1, e1, hr⟩ := h.obs id _ _ hg hμ
                   refine go hs id b z m off _ _ C t' fr rfl hμ hg (by simp) (by simp) hic hh (by rw [hcs]; exact hf.1) (by omega) (fun rc hD => ?_)
                   obtain ⟨w1, w2⟩ := zok off ⟨e1, hr⟩ h1 rc
                   exact ⟨_, t', fr, setRow_heap w b C _ t' fr hh, by rw [zb1, hcs], hf, w2, w1.1, fun j x' v' hx' hv' => (w1.2 j x' v' hx' hv').mono hD (fun _ h => h) (fun _ _ h => h)⟩
               · trivial
             · rename_i ty sz n get hg
               have hg := hob _ _ hg
               split
               · rename_i hz hfr
                 have hz := za4 hz
                 generalize hu : a.eval x = u at *
                 cases hp with
                 | ref _ _ b z m hμ =>
                   obtain ⟨hm, C, t', fr, hh, hcs, hf, hle, hrow⟩ := h.obs id _ _ hg hμ
                   have key : ∀ get2 : Nat -> Nat -> AV, (∀ i' j, i' < n -> j < sz -> v.cells[i' * sz + j]? = some (get2 i' j)) -> Adv P base M W nt f g c o a w .dead [(id, .row ty sz n get2)] [] := by
                     intro get2 hget
                     refine go hs id b z m 0 _ _ C t' fr rfl hμ hg (by simp) (by simp) hic hh (by rw [hcs]; exact hf.1) (by omega) (fun rc hD => ?_)
                     refine ⟨hm, _, t', fr, setRow_heap w b C _ t' fr hh, by rw [zb1, hcs], ⟨hf.1, hf.2.1, zda hf.2.2.1 rc.ones, hf.2.2.2⟩, hle, fun i' j hi' hj => ?_⟩
                     have hx' := hget i' j hi' hj
                     have hlt := (List.getElem?_eq_some_iff.1 hx').1
                     have hlen := rc.len
                     have hval : ((a.eval y).cells.toList)[i' * sz + j]? = some ((a.eval y).cells.toList[i' * sz + j]'(by omega)) := by simp
                     obtain ⟨q1, q2⟩ := rc.get _ _ _ hx' hval
                     refine ⟨_, ?_, q2, (zdm q1 (zd1 hfr _ _ hx')).mono hD (fun _ h => h) (fun _ _ h => h)⟩
                     rw [zb6 _ _ _ _ (by omega), if_pos ⟨Nat.zero_le _, by omega⟩, Nat.sub_zero, hval]
                   split
                   · rename_i k get' hs1 _
                     have hs1 := za4 hs1
                     subst hs1
                     refine key _ (fun i' j hi' hj => ?_)
                     have hk : (AV.arr k get').cells.length = k := zh0 _ _ _
                     have h0 : j = 0 := by omega
                     subst h0
                     show (znq get' 0 k)[i' * 1 + 0]? = some (get' i')
                     rw [zeo, if_pos (by omega), Nat.zero_add, Nat.mul_one, Nat.add_zero]
                   · exact key _ (fun i' j hi' hj => zf3 (by omega) hi' hj)
               · trivial
             · rename_i cs hg
               have hg := hob _ _ hg
               split
               · rename_i hle
                 have hle := zbh hle
                 rw [zal] at hle
                 generalize hu : a.eval x = u at *
                 cases hp with
                 | ref _ _ b z m hμ =>
                   obtain ⟨C, t', fr, hh, hcs, hf, hlz, hr⟩ := h.obs id _ _ hg hμ
                   refine go hs id b z m off _ _ C t' fr rfl hμ hg (by simp) (by simp) hic hh (by rw [hcs]; exact hf.1) (by omega) (fun rc hD => ?_)
                   have hlen := rc.len
                   refine ⟨_, t', fr, setRow_heap w b C _ t' fr hh, by rw [zb1, hcs], hf, by rw [zf7]; exact hlz, fun j x' hx' => ?_⟩
                   have hj : j < cs.length := by rw [<- zf7 v.cells cs off]; exact (List.getElem?_eq_some_iff.1 hx').1
                   obtain ⟨v0, v1, v2, v3⟩ := hr j cs[j] (by simp [hj])
                   have hjC := (Array.getElem?_eq_some_iff.1 v1).1
                   rw [zjp v.cells cs off j hj] at hx'
                   rw [zb6 _ _ _ _ hjC]
                   by_cases hin : off <= j /\ j < off + v.cells.length
                   · rw [if_pos hin] at hx'
                     rw [if_pos (by omega)]
                     have hval : ((a.eval y).cells.toList)[j - off]? = some ((a.eval y).cells.toList[j - off]'(by omega)) := by simp
                     obtain ⟨q1, q2⟩ := rc.get _ _ _ hx' hval
                     exact ⟨_, hval, q2, q1.mono hD (fun _ h => h) (fun _ _ h => h)⟩
                   · rw [if_neg hin] at hx'
                     rw [if_neg (by omega)]
                     rw [show cs[j]? = some cs[j] by simp [hj]] at hx'
                     cases hx'
                     exact ⟨v0, v1, v2, v3.mono hD (fun _ h => h) (fun _ _ h => h)⟩
               · trivial
             · trivial
           · trivial
         · rename_i id sz q off
           split
           · rename_i hic
             have hic := hice _ hic
             split
             · rename_i sz' n get hg
               have hg := hob _ _ hg
               split
               · rename_i hsz'
                 obtain rfl := za4 hsz'
                 split
                 · rename_i hle
                   have hle := zbh hle
                   split
                   rotate_left
                   · trivial
                   rename_i cs' himm
                   split
                   rotate_left
                   · trivial
                   rename_i hnot
                   obtain ⟨l1, l2, l3⟩ := zm3 h hob himm (ids := zrk v.cells) (fun _ h => h)
                   have h' := h.freeze (zrk v.cells) l2
                   have hic' : zkv c (zrk v.cells) id = false := by simp [zkv, hnot, hic]
                   generalize hu : a.eval x = u at *
                   cases hp with
                   | eref _ _ _ _ b z m hμ hq =>
                     obtain ⟨hm, C, t', fr, hh, hcs, hf, hle', hrow⟩ := h'.obs id _ _ hg hμ
                     have hqn : (q + 1) * sz <= n * sz := Nat.mul_le_mul_right _ (by omega)
                     rw [Nat.add_mul] at hqn
                     refine goD hs _ _ h' id b z m (q * sz + off) _ _ C t' fr rfl hμ hg (by simp) (by simp) hic' hh (by rw [hcs]; exact hf.1) (by omega) (fun rc hD => ?_)
                     refine ⟨hm, _, t', fr, setRow_heap w b C _ t' fr hh, by rw [zb1, hcs], ⟨hf.1, hf.2.1, zda hf.2.2.1 rc.ones, hf.2.2.2⟩, hle', fun i' j hi' hj => ?_⟩
                     have hlen := rc.len
                     obtain ⟨y0, y1, y2, y3⟩ := hrow i' j hi' hj
                     have hin : i' * sz + j < C.size := (Array.getElem?_eq_some_iff.1 y1).1
                     rw [zgz]
                     by_cases hjr : off <= j /\ j < off + i.sz
                     · rw [if_pos hjr]
                       by_cases hqi : i' = q
                       · subst hqi
                         have hcell : v.cells[j - off]? = some (zbn .dead v.cells (j - off)) := zaz _ _ _ (by omega)
                         have hcell' : cs'[j - off]? = some (zbn .dead cs' (j - off)) := zaz _ _ _ (by omega)
                         have hval : ((a.eval y).cells.toList)[j - off]? = some ((a.eval y).cells.toList[j - off]'(by omega)) := by simp
                         obtain ⟨q1, q2⟩ := rc.get _ _ _ hcell hval
                         have q3 := l3 _ _ _ _ hcell hcell' q1
                         refine ⟨_, ?_, q2, ?_⟩
                         · rw [zb6 _ _ _ _ hin, if_pos ⟨by omega, by omega⟩]
                           rw [show i' * sz + j - (i' * sz + off) = j - off by omega]
                           exact hval
                         · rw [za6]
                           exact zf2 (q3.mono hD (fun _ h => h) (fun _ _ h => h)) _
                       · refine ⟨y0, ?_, y2, ?_⟩
                         · rw [zb6 _ _ _ _ hin, if_neg]
                           · exact y1
                           · rintro ⟨p1, p2⟩
                             have hlenz : (a.eval y).cells.toList.length = i.sz := by omega
                             rcases Nat.lt_or_gt_of_ne hqi with hlt | hgt
                             · have h3 : (i' + 1) * sz <= q * sz := Nat.mul_le_mul_right _ hlt
                               rw [Nat.add_mul] at h3
                               omega
                             · have h3 : (q + 1) * sz <= i' * sz := Nat.mul_le_mul_right _ hgt
                               rw [Nat.add_mul] at h3
                               omega
                         · rw [zan hqi]
                           exact zd9 (y3.mono hD (fun _ h => h) (fun _ _ h => h)) _
                     · rw [if_neg hjr]
                       refine ⟨y0, ?_, y2, y3.mono hD (fun _ h => h) (fun _ _ h => h)⟩
                       rw [zb6 _ _ _ _ hin, if_neg]
                       · exact y1
                       · rintro ⟨p1, p2⟩
                         have hlenz : (a.eval y).cells.toList.length = i.sz := by omega
                         by_cases hqi : i' = q
                         · subst hqi; omega
                         · rcases Nat.lt_or_gt_of_ne hqi with hlt | hgt
                           · have h3 : (i' + 1) * sz <= q * sz := Nat.mul_le_mul_right _ hlt
                             rw [Nat.add_mul] at h3
                             omega
                           · have h3 : (q + 1) * sz <= i' * sz := Nat.mul_le_mul_right _ hgt
                             rw [Nat.add_mul] at h3
                             omega
                 · trivial
               · trivial
             · trivial
           · trivial
         · rename_i id off n q
           split
           · rename_i hic
             have hic := hice _ hic
             split
             · rename_i ty cs hg
               have hg := hob _ _ hg
               split
               · rename_i x0 hcells hle
                 have hle := zbh hle
                 rw [zal] at hle
                 have hs1 : i.sz = 1 := by rw [<- hsz, hcells]; rfl
                 generalize hu : a.eval x = u at *
                 cases hp with
                 | bidx _ _ _ _ b z m hμ hq =>
                   obtain ⟨C, t', fr, hh, hcs, hf, h1, e1, hr⟩ := h.obs id _ _ hg hμ
                   refine go hs id b z m (off + q) _ _ C t' fr rfl hμ hg (by simp) (by simp) hic hh (by rw [hcs]; exact hf.1) (by omega) (fun rc hD => ?_)
                   have hlen := rc.len
                   have hone : (a.eval y).cells.toList.length = 1 := by omega
                   rw [hcells] at rc
                   have hval : (a.eval y).cells.toList[0]? = some ((a.eval y).cells.toList[0]'(by omega)) := by simp
                   obtain ⟨q1, q2⟩ := rc.get 0 _ _ rfl hval
                   have hset : ∀ (l : List AV) (k j : Nat), (yll std q x0 k l)[j]? = l[j]?.map fun z => zhc std (zat q (k + j)) x0 z := by
                     intro l
                     induction l with
                     | nil => intro k j; simp [yll]
                     | cons z l ih =>
                       intro k j
                       cases j with
                       | zero => simp [yll, L2, std]
                       | succ j => simp [yll, ih, Nat.add_comm, Nat.add_left_comm]
                   have hsl : ∀ (l : List AV) (k : Nat), (yll std q x0 k l).length = l.length := by
                     intro l
                     induction l with
                     | nil => intro k; rfl
                     | cons z l ih => intro k; simp [yll, ih]
                   refine ⟨_, t', fr, setRow_heap w b C _ t' fr hh, by rw [zb1, hcs], hf, fun j v hv => ?_, by rw [zf7, zb1]; exact e1, fun j x' v' hx' hv' => ?_⟩
                   · have hjC : j < C.size := by have := (Array.getElem?_eq_some_iff.1 hv).1; rwa [zb1] at this
                     rw [zb6 _ _ _ _ hjC] at hv
                     split at hv
                     · have : j - (off + q) = 0 := by omega
                       rw [this, hval] at hv
                       cases hv; exact q2
                     · exact h1 j v hv
                   · have hjC : j < C.size := by have := (Array.getElem?_eq_some_iff.1 hv').1; rwa [zb1] at this
                     rw [zb6 _ _ _ _ hjC] at hv'
                     have hj : j < cs.length := by omega
                     rw [zjp _ _ _ _ hj, hsl, zb0, zbd, List.length_take, List.length_drop, Nat.min_eq_left (by omega)] at hx'
                     by_cases hin : off <= j /\ j < off + n
                     · rw [if_pos hin, hset, List.getElem?_take, if_pos (by omega), List.getElem?_drop, show off + (j - off) = j by omega, List.getElem?_eq_getElem hj, Option.map_some, Nat.zero_add] at hx'
                       cases hx'
                       by_cases hjq : j = off + q
                       · rw [if_pos (by omega)] at hv'
                         rw [show j - (off + q) = 0 by omega, hval] at hv'
                         cases hv'
                         rw [show j - off = q by omega, za6]
                         exact (zf2 q1 _).mono hD (fun _ h => h) (fun _ _ h => h)
                       · rw [if_neg (by omega)] at hv'
                         rw [zan (by omega : ¬ q = j - off)]
                         exact (zd9 (hr j cs[j] v' (by simp [hj]) hv') _).mono hD (fun _ h => h) (fun _ _ h => h)
                     · rw [if_neg hin] at hx'
                       rw [if_neg (by omega)] at hv'
                       exact (hr j x' v' hx' hv').mono hD (fun _ h => h) (fun _ _ h => h)
               · trivial
             · trivial
           · trivial
         · trivial
     · trivial
   · trivial
end
end Sy
end Go.Proofs.YtogpolfhcbgcbaaGreatDoor
namespace Go.Proofs.YtogpolfhcbgcbaaGreatDoor
namespace Sy
open Go Go.RowKit
set_option linter.unusedSimpArgs false
set_option linter.unusedVariables false
section
variable {P : Program}
def yrl (P : Program) (t : Nat) : Prop := (∃ e, P.underlying t = some (.slice e)) \/ P.underlying t = some .string
theorem zcf (w : World) (t t' ty e : TypeId) (i : TypeInfo) (z : Value) (ht : P.underlying t = some (.slice e)) (ht' : yrl P t') (hi : P.info? e = some i) (hz : i.zero = some z)
   (base : Option Addr) (sLen sCap : Nat) (x : Value) (m : Nat) (olds news : List Value) (ho : ∀ w', w'.heap = w.heap -> (Builtin.firstCells i.size sLen (.slice base sLen sCap)).run P w' = .ok olds.toArray w')
   (hn : ∀ w', w'.heap = w.heap -> (Builtin.firstCells i.size m x).run P w' = .ok news.toArray w') (hlx : (Builtin.lenOf x).run P w = .ok m w)
   (hg : sCap < sLen + m) (h63 : sLen + m <= 9223372036854775807) (hfit : Builtin.nextslicecap (sLen + m) sCap * i.bytes <= 281474976710656) :
   (Builtin.append_ #[t, t'] ty #[.slice base sLen sCap, x]).run P w =
     .ok (.slice (some ⟨w.heap.size, 0, none⟩) (sLen + m) (grownCap w (sLen + m) sCap e)) (w.drew.alloc (.cells (olds.toArray ++ news.toArray ++ Builtin.zeroCells z.cells (grownCap w (sLen + m) sCap e - (sLen + m))) e)) := by
 have hgt : ¬ (sLen + m <= sCap) := by omega
 have h63' : ¬ (9223372036854775807 < ((sLen : Int) + (m : Int))) := by omega
 have h48' : ¬ (281474976710656 < Builtin.nextslicecap (sLen + m) sCap * i.bytes) := by omega
 have hf := hn w.drew rfl
 have hfo := ho w.drew rfl
 rcases ht' with ⟨e', hd'⟩ | hd' <;> simp [Builtin.append_, run_underlying ht, run_underlying hd', sizeOf, typeInfo, zeroValue, hi, hz, hlx, hgt, h63', h48', Question.forced, hf, hfo, newRow, grownCap] <;> (congr 2; apply Array.ext'; simp [List.append_assoc])
theorem zds (w : World) (t t' ty e : TypeId) (i : TypeInfo) (ht : P.underlying t = some (.slice e)) (ht' : yrl P t') (hi : P.info? e = some i)
   (base : Option Addr) (sLen sCap : Nat) (x : Value) (m : Nat) (news : List Value) (hn : ∀ w', w'.heap = w.heap -> (Builtin.firstCells i.size m x).run P w' = .ok news.toArray w') (hlx : (Builtin.lenOf x).run P w = .ok m w)
   (hg : sLen + m <= sCap) {w' : World} (hst : ∀ ad, base = some ad -> (storeCells (ad.add (sLen * i.size)) news).run P w = .ok () w') (hb : base = none -> w' = w) :
   (Builtin.append_ #[t, t'] ty #[.slice base sLen sCap, x]).run P w = .ok (.slice base (sLen + m) sCap) w' := by
 have hf := hn w rfl
 cases base with
 | some ad =>
   have hs := hst ad rfl
   rcases ht' with ⟨e', hd'⟩ | hd' <;> simp [Builtin.append_, run_underlying ht, run_underlying hd', sizeOf, typeInfo, hi, hlx, hg, hf, hs]
 | none =>
   obtain rfl := hb rfl
   rcases ht' with ⟨e', hd'⟩ | hd' <;> simp [Builtin.append_, run_underlying ht, run_underlying hd', sizeOf, typeInfo, hi, hlx, hg, hf]
variable {T : TT} {base : Nat} {M : Two} {W : World} {nt : Nat} {f : Nat -> Option AV} {g : Nat -> Option Ob} {c : Nat -> Bool} {a : Act} {w : World} {D : Nat -> Prop} {μ : Mu} {o : Oper}
theorem zlq (hT : zbw P T) {t : Nat} (h : zec T t = true) : yrl P t := by
 unfold zec at h
 split at h
 · rename_i i hi
   have ok := (hT t i hi).k
   split at h
   · rename_i hk; rw [hk] at ok; exact .inl ⟨_, ok.1⟩
   · rename_i hk; rw [hk] at ok; exact .inr ok
   · cases h
 · cases h
theorem zj2 (esz m b o' cap : Nat) (vs : Nat -> Nat -> Value) (hv : ∀ i j, i < m -> j < esz -> hcell w.heap b (o' + i * esz + j) = some (vs i j)) :
   ∃ news : List Value, news.length = m * esz /\ (∀ w', w'.heap = w.heap -> (Builtin.firstCells esz m (.slice (some ⟨b, o', none⟩) m cap)).run P w' = .ok news.toArray w') /\ (∀ i j, i < m -> j < esz -> news[i * esz + j]? = some (vs i j)) := by
 refine ⟨(List.range (m * esz)).map (fun q => vs (q / esz) (q % esz)), by simp, fun w' hw => ?_, fun i j hi hj => ?_⟩
 · have h1 := run_loadCells (P := P) w' ⟨b, o', none⟩ (m * esz) (fun q => vs (q / esz) (q % esz)) (fun q hq => by
     have h0 : 0 < esz := by
       rcases Nat.eq_zero_or_pos esz with h0 | h0
       · rw [h0] at hq; omega
       · exact h0
     rw [zbe, zmj, hw]
     have := hv (q / esz) (q % esz) (Nat.div_lt_of_lt_mul (by rw [Nat.mul_comm]; exact hq)) (Nat.mod_lt _ h0)
     rw [Nat.add_assoc, show q / esz * esz + q % esz = q by rw [Nat.mul_comm]; exact Nat.div_add_mod q esz] at this
     exact this)
   simp [Builtin.firstCells, h1]
 · have hq : i * esz + j < m * esz := by
     have h1 : (i + 1) * esz <= m * esz := Nat.mul_le_mul_right _ hi
     rw [Nat.add_mul] at h1
     omega
   have e1 : (i * esz + j) / esz = i := by
     rw [Nat.mul_comm, Nat.mul_add_div (by omega), Nat.div_eq_of_lt hj]; omega
   have e2 : (i * esz + j) % esz = j := by rw [Nat.mul_comm, Nat.mul_add_mod, Nat.mod_eq_of_lt hj]
   simp [hq, e1, e2]
theorem zgw {cs : Array Value} {m sz i j : Nat} (hs : cs.size = sz) (hi : i < m) (hj : j < sz) : (Builtin.zeroCells cs m).toList[i * sz + j]? = some (cs.getD j undef) := by
 have hq : i * sz + j < m * sz := by
   have h1 : (i + 1) * sz <= m * sz := Nat.mul_le_mul_right _ hi
   rw [Nat.add_mul] at h1
   omega
 have hmod : (i * sz + j) % sz = j := by rw [Nat.mul_comm, Nat.mul_add_mod, Nat.mod_eq_of_lt hj]
 have hj' : j < cs.size := by omega
 simp [Builtin.zeroCells, hs, hq, hmod]
 rw [getElem!_pos cs _ hj']
 simp [hj']
theorem zig {C : Array Value} {l m : List Value} {z : Array Value} (e : C = l.toArray ++ m.toArray ++ z) (h1 : ∀ v ∈ l, one v) (h2 : ∀ v ∈ m, one v) (h3 : ∀ v ∈ z.toList, one v) : ones C := by
 subst e
 intro i v hv
 have := Array.mem_of_getElem? hv
 simp only [Array.mem_append, List.mem_toArray] at this
 rcases this with (h | h) | h
 · exact h1 v h
 · exact h2 v h
 · exact h3 v (by simpa using h)
theorem zeb {l : List Value} {m sz : Nat} (hs : 0 < sz) (hl : l.length = m * sz) (h : ∀ i j, i < m -> j < sz -> ∃ v, l[i * sz + j]? = some v /\ one v) : ∀ v ∈ l, one v := by
 intro v hv
 obtain ⟨q, hq⟩ := List.getElem?_of_mem hv
 have hql : q < m * sz := by rw [<- hl]; exact (List.getElem?_eq_some_iff.1 hq).1
 obtain ⟨v', v1, v2⟩ := h (q / sz) (q % sz) (Nat.div_lt_of_lt_mul (by rw [Nat.mul_comm]; exact hql)) (Nat.mod_lt _ (by omega))
 rw [show q / sz * sz + q % sz = q by rw [Nat.mul_comm]; exact Nat.div_add_mod q sz, hq] at v1
 cases v1
 exact v2
theorem zop (h : Sim base M W nt f g c a w D μ) {esz m : Nat} {ob : Nat -> Option Ob} (hob : ∀ id z, ob id = some z -> g id = some z) {x : AV} {src : Nat -> Nat -> AV} {u : Value} (e : zcl std esz ob x = some (m, src)) (r : R w.heap D μ x u) (hnx : ∀ id sz off n cap, x ≠ .slc id sz off n cap) (hnz : ∀ sz n get, x ≠ .lstx sz n get) :
   ∃ news : List Value, news.length = m * esz /\ (∀ w', w'.heap = w.heap -> (Builtin.firstCells esz m u).run P w' = .ok news.toArray w') /\ (Builtin.lenOf u).run P w = .ok m w /\
     ∀ i j, i < m -> j < esz -> ∃ v, news[i * esz + j]? = some v /\ one v /\ R w.heap D zav (src i j) v := by
 have empty : ∀ ad cap, m = 0 -> u = .slice ad 0 cap -> ∃ news : List Value, news.length = m * esz /\ (∀ w', w'.heap = w.heap -> (Builtin.firstCells esz m u).run P w' = .ok news.toArray w') /\ (Builtin.lenOf u).run P w = .ok m w /\
     ∀ i j, i < m -> j < esz -> ∃ v, news[i * esz + j]? = some v /\ one v /\ R w.heap D zav (src i j) v := by
   rintro ad cap rfl rfl
   refine ⟨[], by simp, fun w' hw => ?_, rfl, fun i j hi => by omega⟩
   cases ad with
   | none => simp [Builtin.firstCells]
   | some ad => simp [Builtin.firstCells, loadCells, loadCellsFrom]
 cases x with
 | slc id sz off n cap => exact absurd rfl (hnx id sz off n cap)
 | lstx sz n get => exact absurd rfl (hnz sz n get)
 | lst sz n get =>
   simp only [zcl] at e
   split at e
   · rename_i hsz
     obtain rfl := za4 hsz
     cases e
     cases r with
     | lst0 _ _ ad cap hn => exact empty _ _ rfl rfl
     | lst _ _ _ b o' cap vs hD hc hv h1 hr =>
       obtain ⟨news, n1, n2, n3⟩ := zj2 (P := P) (w := w) sz m b o' cap vs hv
       exact ⟨news, n1, n2, rfl, fun i j hi hj => ⟨_, n3 i j hi hj, h1 i j hi hj, hr i j hi hj⟩⟩
   · cases e
 | nils =>
   simp only [zcl] at e
   cases e
   cases r with
   | nils => exact empty _ _ rfl rfl
 | emp =>
   simp only [zcl] at e
   cases e
   cases r with
   | emp ad cap => exact empty _ _ rfl rfl
 | emz =>
   simp only [zcl] at e
   cases e
   cases r with
   | emz ad => exact empty _ _ rfl rfl
 | sl id sz off n =>
   simp only [zcl] at e
   split at e
   · rename_i hsz
     obtain rfl := za4 hsz
     split at e
     · rename_i sz' n' get hg
       have hg := hob _ _ hg
       split at e
       · rename_i hsz'
         obtain rfl := za4 hsz'
         cases e
         cases r with
         | slv => exact empty _ _ rfl rfl
         | sl0 => exact empty _ _ rfl rfl
         | sl _ _ _ _ b z q cap hμ hn hz ho =>
           obtain ⟨hm, C, t', fr, hh, hcs, _, hle, hrow⟩ := h.obs id _ _ hg hμ
           have key : ∀ i j, i < m -> j < sz -> ∃ y, C[off * sz + i * sz + j]? = some y /\ one y /\ R w.heap D zav (get (off + i) j) y := by
             intro i j h1 h2
             obtain ⟨y, y1, y2, y3⟩ := hrow (off + i) j (by omega) h2
             rw [Nat.add_mul] at y1
             exact ⟨y, y1, y2, y3⟩
           obtain ⟨news, n1, n2, n3⟩ := zj2 (P := P) (w := w) sz m b (off * sz) cap (fun i j => C.getD (off * sz + i * sz + j) undef) (fun i j h1 h2 => by
             obtain ⟨y, y1, _⟩ := key i j h1 h2
             rw [zbs hh]; exact getD_some (Array.getElem?_eq_some_iff.1 y1).1)
           refine ⟨news, n1, n2, rfl, fun i j hi hj => ⟨_, n3 i j hi hj, ?_⟩⟩
           obtain ⟨y, y1, y2, y3⟩ := key i j hi hj
           rw [getD_some (Array.getElem?_eq_some_iff.1 y1).1] at y1
           cases y1
           exact ⟨y2, y3⟩
       · cases e
     · cases e
   · cases e
 | str l =>
   simp only [zcl] at e
   split at e
   · cases e
     obtain ⟨s, rfl, rfl⟩ := r.inv_str
     refine ⟨s.data.toList.map (fun b => .int .u8 b.toNat), by simp [std], fun w' hw => ?_, by simp [Builtin.lenOf, std], fun i j hi hj => ?_⟩
     · have e1 : (std List.length s.data.toList : Nat) = s.size := by simp [std]
       rw [e1]
       have e2 : (s.extract 0 s.size) = s := by
         apply ByteArray.ext
         simp
       simp only [Builtin.firstCells, Sem.run_pure, e2]
       congr 1
       apply Array.ext'
       simp
     · obtain rfl : j = 0 := by omega
       have hi' : i < s.data.size := by simpa [std] using hi
       have hb : s.data[i]? = some (s.data[i]) := Array.getElem?_eq_getElem hi'
       refine ⟨.int .u8 (s.data[i]).toNat, by simp [hb], rfl, ?_⟩
       have : zhh s.data.toList (za7 i) = ((s.data[i]).toNat : Int) := by
         simp [zhh, za7, List.getD, hb]
       show R w.heap D zav (.int .u8 (zhh s.data.toList (za7 i))) _
       rw [this]
       exact .int _ _
   · cases e
 | _ => simp [zcl] at e
theorem zga (h : Sim base M W nt f g c a w D μ) {esz m : Nat} {ob : Nat -> Option Ob} (hob : ∀ id z, ob id = some z -> g id = some z) {x : AV} {src : Nat -> Nat -> AV} {u : Value} (e : zcl std esz ob x = some (m, src)) (r : R w.heap D μ x u) :
   ∃ news : List Value, news.length = m * esz /\ (∀ w', w'.heap = w.heap -> (Builtin.firstCells esz m u).run P w' = .ok news.toArray w') /\ (Builtin.lenOf u).run P w = .ok m w /\
     ∀ i j, i < m -> j < esz -> ∃ v, news[i * esz + j]? = some v /\ one v /\ R w.heap D zav (src i j) v := by
 by_cases hx : ∃ id sz off n cap, x = .slc id sz off n cap
 · obtain ⟨id, sz, off, n, cap, rfl⟩ := hx
   exact zop (x := .sl id sz off n) h hob e r.less (fun _ _ _ _ _ h => by cases h) (fun _ _ _ h => by cases h)
 · by_cases hy : ∃ sz n get, x = .lstx sz n get
   · obtain ⟨sz, n, get, rfl⟩ := hy
     exact zop (x := .lst sz n get) h hob e r.lessx (fun _ _ _ _ _ h => by cases h) (fun _ _ _ h => by cases h)
   · exact zop h hob e r (fun id sz off n cap h => hx ⟨id, sz, off, n, cap, h⟩) (fun sz n get h => hy ⟨sz, n, get, h⟩)
theorem zpk {n m esz : Nat} {get src : Nat -> Nat -> AV} {h : Array Obj} {D : Nat -> Prop} {C : Nat -> Option Value} (h1 : ∀ i j, i < n -> j < esz -> ∃ v, C (i * esz + j) = some v /\ one v /\ R h D zav (get i j) v)
   (h2 : ∀ i j, i < m -> j < esz -> ∃ v, C (n * esz + (i * esz + j)) = some v /\ one v /\ R h D zav (src i j) v) :
   ∀ i j, i < n + m -> j < esz -> ∃ v, C (i * esz + j) = some v /\ one v /\ R h D zav (zhc std (L2 std zbk i n) (get i j) (src (L2 std Nat.sub i n) j)) v := by
 intro i j hi hj
 by_cases hin : i < n
 · obtain ⟨v, v1, v2, v3⟩ := h1 i j hin hj
   refine ⟨v, v1, v2, ?_⟩
   have : L2 std zbk i n = true := by show zbk i n = true; rw [zcn]; exact hin
   rw [this]
   exact zf2 v3 _
 · obtain ⟨v, v1, v2, v3⟩ := h2 (i - n) j (by omega) hj
   refine ⟨v, ?_, v2, ?_⟩
   · rw [<- Nat.add_assoc, <- Nat.add_mul, show n + (i - n) = i by omega] at v1
     exact v1
   · have : L2 std zbk i n = false := by
       show zbk i n = false
       cases e : zbk i n with
       | false => rfl
       | true => exact absurd (zd2 e) hin
     rw [this]
     exact zd9 v3 _
theorem Sim.newNil (h : Sim base M W nt f g c a w D μ) {d : Nat} (hlt : zfu d = false) (hd : g d = none) (ty sz : Nat) (get : Nat -> Nat -> AV) :
   Sim base M W nt f (zb5 g [(d, .row ty sz 0 get)]) c a w D (fun id => if id = d then some none else μ id) := by
 have hmd : μ d = none := (h.dom d).2 hd
 have hmm : ∀ id x, μ id = some x -> (if id = d then some none else μ id) = some x := by
   intro id x hx
   have : id ≠ d := by rintro rfl; rw [hmd] at hx; cases hx
   rw [if_neg this, hx]
 have hg : ∀ id, zb5 g [(d, .row ty sz 0 get)] id = if id = d then some (.row ty sz 0 get) else g id := by
   intro id
   by_cases e : id = d
   · subst e; simp [zb5, za3, za6]
   · simp [zb5, za3, zan (fun x => e x.symm : ¬ d = id), e]
 refine { h with slots := fun t v hv => (h.slots t v hv).mono (fun _ _ => rfl) (fun _ h => h) hmm, dom := fun id => ?_, obs := fun id o' x h1 h2 => ?_, inj := ?_, own := ?_, kd := ?_, icy := ?_, pin := fun i y hp hy => ?_ }
 rotate_right
 · by_cases e : i = d
   · rw [e, hlt] at hp; cases hp
   · rw [if_neg e] at hy; exact h.pin i y hp hy
 · rw [hg]
   by_cases e : id = d
   · simp [e]
   · simp only [if_neg e]; exact h.dom id
 · rw [hg] at h1
   by_cases e : id = d
   · rw [if_pos e] at h1 h2; cases h1; cases h2; rfl
   · rw [if_neg e] at h1 h2
     exact (h.obs id o' x h1 h2).mono (fun _ _ => rfl) (fun _ h => h) hmm (fun _ _ _ _ => rfl)
 · intro id id' b z z' o1 o2 h1 h2 h3 h4 h5 h6
   rw [hg] at h3 h4
   by_cases e : id = d
   · rw [if_pos e] at h1; cases h1
   · by_cases e' : id' = d
     · rw [if_pos e'] at h2; cases h2
     · rw [if_neg e] at h1 h3; rw [if_neg e'] at h2 h4
       exact h.inj id id' b z z' o1 o2 h1 h2 h3 h4 h5 h6
 · intro id b z h1
   by_cases e : id = d
   · rw [if_pos e] at h1; cases h1
   · rw [if_neg e] at h1; exact h.own id b z h1
 · intro id b z o' h1 h2 h3
   rw [hg] at h2
   by_cases e : id = d
   · rw [if_pos e] at h1; cases h1
   · rw [if_neg e] at h1 h2; exact h.kd id b z o' h1 h2 h3
 · intro id h1
   rw [hg]
   by_cases e : id = d
   · rw [if_pos e]; simp
   · rw [if_neg e]; exact h.icy id h1
theorem Sim.gone (h : Sim base M W nt f g c a w D μ) {id : Nat} {ob : Ob} (hg : g id = some ob) : Sim base M W nt f (zb5 g [(id, .gone)]) c a w D μ := by
 have hgp : ∀ i, zb5 g [(id, .gone)] i = if i = id then some .gone else g i := by
   intro i
   by_cases e : i = id
   · subst e; simp [zb5, za3, za6]
   · simp [zb5, za3, zan (fun x => e x.symm : ¬ id = i), e]
 refine { h with dom := fun i => ?_, obs := fun i o' x h1 h2 => ?_, inj := ?_, kd := ?_, icy := ?_ }
 · rw [hgp]
   by_cases e : i = id
   · subst e
     rw [if_pos rfl]
     have := h.dom i
     rw [hg] at this
     simpa using this
   · rw [if_neg e]; exact h.dom i
 · rw [hgp] at h1
   by_cases e : i = id
   · rw [if_pos e] at h1; cases h1
     cases x <;> exact trivial
   · rw [if_neg e] at h1; exact h.obs i o' x h1 h2
 · intro i i' b z z' o1 o2 h1 h2 h3 h4 h5 h6
   rw [hgp] at h3 h4
   by_cases e : i = id
   · rw [if_pos e] at h3; cases h3; exact absurd rfl h5
   · by_cases e' : i' = id
     · rw [if_pos e'] at h4; cases h4; exact absurd rfl h6
     · rw [if_neg e] at h3; rw [if_neg e'] at h4
       exact h.inj i i' b z z' o1 o2 h1 h2 h3 h4 h5 h6
 · intro i b z o1 h1 h2 h3
   rw [hgp] at h2
   by_cases e : i = id
   · rw [if_pos e] at h2; cases h2; exact absurd rfl h3
   · rw [if_neg e] at h2; exact h.kd i b z o1 h1 h2 h3
 · intro i hi
   rw [hgp]
   by_cases e : i = id
   · rw [if_pos e]; simp
   · rw [if_neg e]; exact h.icy i hi
theorem Sim.adopt (h : Sim base M W nt f g c a w D μ) {d : Nat} (hlt : zfu d = false) (hd : g d = none) {b z m : Nat} (hb : b < w.heap.size) (hbase : base <= b \/ M.wr b) (hnD : ¬ D b) (hfree : ∀ i o z', μ i = some (some (b, z')) -> g i = some o -> o = .gone)
   {ob : Ob} (hne : ob ≠ .gone) (C' : Array Value) (hok : (∀ k, D k -> (w.setRow b C').heap[k]? = w.heap[k]?) -> zj8 (w.setRow b C').heap D μ ob (some (b, z, m))) :
   Sim base M W nt f (zb5 g [(d, ob)]) c a (w.setRow b C') D (fun id => if id = d then some (some (b, z, m)) else μ id) := by
 have hother : ∀ k, k ≠ b -> (w.setRow b C').heap[k]? = w.heap[k]? := fun k hk => zk1 w b k C' hk
 have hDk : ∀ k, D k -> (w.setRow b C').heap[k]? = w.heap[k]? := fun k hk => hother k (by rintro rfl; exact hnD hk)
 have hmd : μ d = none := (h.dom d).2 hd
 have hcd : c d = false := by
   cases e : c d with
   | false => rfl
   | true => exact absurd hd (h.icy d e)
 have hmm : ∀ id x, μ id = some x -> (if id = d then some (some (b, z, m)) else μ id) = some x := by
   intro id x hx
   have : id ≠ d := by rintro rfl; rw [hmd] at hx; cases hx
   rw [if_neg this, hx]
 have hgp : ∀ i, zb5 g [(d, ob)] i = if i = d then some ob else g i := by
   intro i
   by_cases e : i = d
   · subst e; simp [zb5, za3, za6]
   · simp [zb5, za3, zan (fun x => e x.symm : ¬ d = i), e]
 exact {
   os := h.os, tape := h.tape, output := h.output
   size := by rw [ze8]; exact h.size
   bs := by rw [ze8]; exact h.bs
   old := fun k h1 h2 => by
     rw [hother k (by
       rintro rfl
       rcases hbase with h3 | h3
       · omega
       · exact h2 h3)]
     exact h.old k h1 h2
   defers := h.defers, tmps := h.tmps
   slots := fun s v hv => (h.slots s v hv).mono hDk (fun _ h => h) hmm
   dlt := fun k hk => by rw [ze8]; exact h.dlt k hk
   low := h.low
   dom := fun i => by
     rw [hgp]
     by_cases e : i = d
     · simp [e]
     · simp only [if_neg e]; exact h.dom i
   obs := fun i o' x h1 h2 => by
     rw [hgp] at h1
     by_cases e : i = d
     · rw [if_pos e] at h1 h2; cases h1; cases h2
       exact (hok hDk).mono (fun _ _ => rfl) (fun _ h => h) hmm (fun _ _ _ _ => rfl)
     · rw [if_neg e] at h1 h2
       refine (h.obs i o' x h1 h2).mono hDk (fun _ h => h) hmm (fun b' z' hx hne2 => hother b' ?_)
       rintro rfl
       subst hx
       exact hne2 (hfree i o' z' h2 h1)
   inj := fun i i' b1 z1 z2 o1 o2 h1 h2 h3 h4 h5 h6 => by
     rw [hgp] at h3 h4
     by_cases e : i = d
     · by_cases e' : i' = d
       · rw [e, e']
       · rw [if_pos e] at h1; rw [if_neg e'] at h2 h4
         cases h1
         exact absurd (hfree i' o2 z2 h2 h4) h6
     · by_cases e' : i' = d
       · rw [if_pos e'] at h2; rw [if_neg e] at h1 h3
         cases h2
         exact absurd (hfree i o1 z1 h1 h3) h5
       · rw [if_neg e] at h1 h3; rw [if_neg e'] at h2 h4
         exact h.inj i i' b1 z1 z2 o1 o2 h1 h2 h3 h4 h5 h6
   own := fun i b1 z1 h1 => by
     rw [ze8]
     by_cases e : i = d
     · rw [if_pos e] at h1; cases h1; exact ⟨hb, hbase⟩
     · rw [if_neg e] at h1; exact h.own i b1 z1 h1
   kd := fun i b1 z1 o1 h1 h2 h3 => by
     rw [hgp] at h2
     by_cases e : i = d
     · rw [if_pos e] at h1; cases h1
       subst e
       exact ⟨fun hx => (by rw [hcd] at hx; cases hx), fun _ => hnD⟩
     · rw [if_neg e] at h1 h2; exact h.kd i b1 z1 o1 h1 h2 h3
   ntb := h.ntb
   gl := h.gl
   pin := fun i y hp hy => by
     by_cases e : i = d
     · rw [e, hlt] at hp; cases hp
     · rw [if_neg e] at hy; exact h.pin i y hp hy
   icy := fun i hi => by
     rw [hgp]
     by_cases e : i = d
     · rw [if_pos e]; simp
     · rw [if_neg e]; exact h.icy i hi }
variable (h : Sim base M W nt f g c a w D μ) (hd : ∀ d, o.dst = some d -> d < nt)
include h hd
omit h hd in
theorem yne {esz m : Nat} {ob : Nat -> Option Ob} {src : Nat -> Nat -> AV} {v : AV} (e : zcl std esz ob v = some (m, src)) : yws ob src v = src := by
 unfold yws
 split
 · rename_i id sz n
   split
   · rename_i ty sz' n' get hg
     simp only [zcl, hg] at e
     split at e
     · split at e
       · cases e
         funext i j
         simp [L2, std]
       · cases e
     · cases e
   · rfl
 · rfl
theorem zsx (hT : zbw P T) {x y : Operand} {ts : Array TypeId} {t t' : Nat} (hts : ts.toList = [t, t']) (e : o.op = .call { callee := .builtin .append, args := #[x, y], argTypes := ts }) {vals : List AV}
   (hv : Ops w.heap D μ a [x, y] vals) {ob : Nat -> Option Ob} (hob : ∀ id z, ob id = some z -> g id = some z) {ice : Nat -> Bool} (hice : ∀ id, ice id = false -> c id = false) :
   zc7 P base M W nt f g c o a w (zut T std o.dst t t' ob ice (zdi g o.op o.dst) vals) := by
 obtain rfl : ts = #[t, t'] := by apply Array.ext'; simpa using hts
 match vals, hv with
 | [s, v], ⟨hs, hv, _⟩ =>
   unfold zut
   simp only
   split
   · rename_i d hc
     obtain ⟨hn, hdst⟩ := zc5 hc
     have hnew : g d = none := by
       simp only [zdi, e, zcq, hdst] at hn
       cases hg : g d with
       | none => rfl
       | some _ => rw [hg] at hn; cases hn
     split
     · rename_i sz ag ze e' esz eb eqf p1 p2 p3 hi
       obtain ⟨ok1, ok2⟩ := (hT t _ hi).k
       obtain ⟨ei', hei', hes⟩ := Option.map_eq_some_iff.1 ok2
       simp only [Prod.mk.injEq] at hes
       obtain ⟨hes1, hes2⟩ := hes
       subst hes1; subst hes2
       split
       · rename_i m src hsrc
         have c1 : zec T t' = true := by cases hx : zec T t' <;> simp_all
         have c2 : zbx 1 ei'.size = true := by cases hx : zbx 1 ei'.size <;> simp_all
         have c3 : (T.find e').isSome = true := by cases hx : (T.find e').isSome <;> simp_all
         rw [c1, c2, c3] at hsrc
         simp only [cond_true] at hsrc
         have hsrc0 := yne hsrc
         have hni := zlq hT c1
         have hsp := zbh c2
         obtain ⟨eti, heti⟩ := Option.isSome_iff_exists.1 c3
         obtain ⟨ii, z, i1, i2, i3, i4, i5, i6⟩ := (hT e' eti heti).info
         rw [hei'] at i1
         cases i1
         have hzs : z.cells.size = ei'.size := by rw [i5, <- i2]
         obtain ⟨news, n1, n2, n3, n4⟩ := zga (P := P) h hob hsrc hv
         have run : ∀ u w', (Builtin.append_ #[t, t'] o.type #[a.eval x, a.eval y]).run P w = .ok u w' -> (execOp a.eval o).run P w = .ok (.value u) w' := by
           intro u w' hu
           unfold execOp
           rw [e]
           simp [resolve, invoke, builtin, hu]
         have fresh : ∀ (ad : Option Addr), a.eval x = .slice ad 0 0 -> (0 + m) * ei'.bytes <= 140737488355328 -> 0 + m <= 9223372036854775807 ->
             ∀ get' : Nat -> Nat -> AV, (∀ i j v, i < m -> j < ei'.size -> R w.heap D zav (src i j) v -> R w.heap D zav (get' i j) v) ->
             ∀ K Q, (∀ a' w', zhy base M W nt (zn3 f o.dst (.sl d ei'.size 0 m)) (zb5 g [(d, .row e' ei'.size m get')]) c a' w' -> K a' w') -> o.wp P a w K Q := by
           intro ad hx hb1 hb2 get' hget K Q hK
           unfold Oper.wp
           have hfc : ∀ w', (Builtin.firstCells ei'.size 0 (.slice ad 0 0)).run P w' = .ok #[] w' := by
             intro w'
             cases ad <;> simp [Builtin.firstCells, loadCells, loadCellsFrom]
           rw [hx] at run
           by_cases hm0 : m = 0
           · subst hm0
             have hnil : news = [] := by apply List.eq_nil_of_length_eq_zero; rw [n1]; simp
             subst hnil
             have hr := zds (P := P) w t t' o.type e' ei' ok1 hni hei' ad 0 0 (a.eval y) 0 [] n2 n3 (by omega) (w' := w) (fun ad _ => rfl) (fun _ => rfl)
             rw [run _ _ hr]
             exact hK _ _ ⟨_, _, (h.newNil (yj1 (hd _ hdst) h.ntb) hnew e' ei'.size get').put hd (.slv _ _ _ (by simp))⟩
           · have hg0 : 0 < 0 + m := by omega
             have hr := zcf (P := P) w t t' o.type e' ei' z ok1 hni hei' i3 ad 0 0 (a.eval y) m [] news (fun w' _ => hfc w') n2 n3 hg0 hb2 (growslice_fits hg0 hb1)
             rw [run _ _ hr]
             have hw : Sim base M W nt f g c a w.drew D μ := h.drew
             obtain ⟨C, hC⟩ : ∃ C, C = ([] : List Value).toArray ++ news.toArray ++ Builtin.zeroCells z.cells (grownCap w (0 + m) 0 e' - (0 + m)) := ⟨_, rfl⟩
             have hge := grownCap_ge w (0 + m) 0 e'
             have hCs : C.size = grownCap w (0 + m) 0 e' * ei'.size := by
               rw [hC]
               simp only [Array.size_append, size_zeroCells, List.size_toArray, List.length_nil, n1, hzs]
               rw [Nat.zero_add, <- Nat.add_mul]
               congr 1
               omega
             rw [<- hC]
             have hle : m * ei'.size <= C.size := by rw [hCs]; exact Nat.mul_le_mul_right _ (by omega)
             have hnew' := hw.new (hd _ hdst) hnew (.row e' ei'.size m get') C e' m (by simp) (zk4 hw hle (zig hC (fun v hv => by simp at hv) (zeb hsp n1 (fun i j hi hj => by obtain ⟨v, v1, v2, _⟩ := n4 i j hi hj; exact ⟨v, v1, v2⟩)) (zeb hsp (by simp [size_zeroCells, hzs]) (fun i j hi hj => ⟨_, zgw hzs hi hj, i4 _ _ (getD_some (by omega))⟩))) (fun i j hi hj => by
               obtain ⟨v, v1, v2, v3⟩ := n4 i j hi hj
               have hlt := (List.getElem?_eq_some_iff.1 v1).1
               refine ⟨v, ?_, v2, hget i j v hi hj v3⟩
               rw [hC]
               simp [Array.getElem?_append, hlt]
               exact (List.getElem?_eq_some_iff.1 v1).2))
             refine hK _ _ ⟨_, _, hnew'.put hd ?_⟩
             have := R.sl (h := (w.drew.alloc (.cells C e')).heap) (D := D) (μ := fun id => if id = d then some (some (w.drew.heap.size, C.size, m)) else μ id) d ei'.size 0 m w.heap.size C.size m (grownCap w (0 + m) 0 e') (by simp) (by omega) (by rw [hCs]; simp) (by omega)
             simpa using this
         split
         ·
           intro hb
           have hb' : (0 + m) * ei'.bytes <= 140737488355328 /\ 0 + m <= 9223372036854775807 := by simpa [L3, std, zc0] using hb
           generalize hu : a.eval x = u at hs
           cases hs with
           | nils =>
             intro K Q hK
             refine fresh none hu hb'.1 hb'.2 src (fun i j v _ _ r => r) K Q (fun a' w' hsim => hK a' w' ?_)
             rw [zes]
             exact hsim
         ·
           intro hb
           have hb' : (0 + m) * ei'.bytes <= 140737488355328 /\ 0 + m <= 9223372036854775807 := by simpa [L3, std, zc0] using hb
           generalize hu : a.eval x = u at hs
           cases hs with
           | emz ad =>
             intro K Q hK
             refine fresh (some ad) hu hb'.1 hb'.2 src (fun i j v _ _ r => r) K Q (fun a' w' hsim => hK a' w' ?_)
             rw [zes]
             exact hsim
         · rename_i id sz' off n
           split
           · rename_i ty sz'' n' get hsz hic hg
             have hic := hice _ hic
             have hg := hob _ _ hg
             obtain rfl := za4 hsz
             split
             · trivial
             · rename_i hsz'
               obtain rfl := za4 hsz'
               split
               · trivial
               rename_i hty
               obtain rfl : e' = ty := (za4 hty).symm
               intro hb
               have hb' : (n + m) * ei'.bytes <= 140737488355328 /\ n + m <= 9223372036854775807 := by simpa [L3, std, zc0] using hb
               obtain ⟨hb1, hb2⟩ := hb'
               have hdid : d ≠ id := by rintro rfl; rw [hnew] at hg; cases hg
               obtain ⟨jg, hjg⟩ : ∃ jg, jg = fun i j => zhc std (L2 std zbk i n) (get i j) (src (L2 std Nat.sub i n) j) := ⟨_, rfl⟩
               have finish : ∀ a' w', zhy base M W nt (zn3 f o.dst (.sl d ei'.size 0 (n + m))) (zb5 g [(d, .row e' ei'.size (n + m) jg)]) c a' w' -> zhy base M W nt (zn3 f o.dst (.sl d ei'.size 0 (n + m))) (zb5 g [(d, .row e' ei'.size (n + m) jg), (id, .gone)]) (zkv c []) a' w' := by
                 rintro a' w' ⟨D', μ', hsim⟩
                 have hid : zb5 g [(d, .row e' ei'.size (n + m) jg)] id = some (.row e' ei'.size n' get) := by
                   simp [zb5, za3, zan hdid, hg]
                 have := hsim.gone hid
                 refine ⟨D', μ', ?_⟩
                 rw [zes]
                 have e2 : zb5 (zb5 g [(d, .row e' ei'.size (n + m) jg)]) [(id, .gone)] = zb5 g [(d, .row e' ei'.size (n + m) jg), (id, .gone)] := by
                   funext k
                   simp only [zb5, za3]
                   by_cases k1 : d = k
                   · subst k1
                     simp [za6, zan (fun x => hdid x.symm : ¬ id = d)]
                   · by_cases k2 : id = k
                     · subst k2; simp [za6, zan hdid]
                     · simp [zan k1, zan k2]
                 rw [<- e2]
                 exact this
               have none0 : ∀ ad, n = 0 -> a.eval x = .slice ad 0 0 -> Adv P base M W nt f g c o a w (.sl d ei'.size 0 (L2 std Nat.add n m)) [(d, .row e' ei'.size (L2 std Nat.add n m) jg), (id, .gone)] [] := by
                 intro ad hn0 hu K Q hK
                 have e3 : L2 std Nat.add n m = m := by show n + m = m; omega
                 rw [e3] at hK
                 have e4 : n + m = m := by omega
                 rw [e4] at finish
                 refine fresh ad hu (by rw [Nat.zero_add]; rw [e4] at hb1; exact hb1) (by omega) jg (fun i j v hi hj r => ?_) K Q (fun a' w' hsim => hK a' w' (finish a' w' hsim))
                 rw [hjg]
                 have e5 : L2 std zbk i n = false := by
                   show zbk i n = false
                   cases e6 : zbk i n with
                   | false => rfl
                   | true => have := zd2 e6; omega
                 have e6 : L2 std Nat.sub i n = i := by show i - n = i; omega
                 simp only [e5, e6]
                 exact zd9 r _
               have main : Adv P base M W nt f g c o a w (.sl d ei'.size 0 (L2 std Nat.add n m)) [(d, .row e' ei'.size (L2 std Nat.add n m) jg), (id, .gone)] [] := by
                 generalize hu : a.eval x = u at hs
                 cases hs with
                 | slv _ _ ad hμ => exact none0 ad rfl hu
                 | sl0 _ _ _ b z m' o' hμ ho => exact none0 _ rfl hu
                 | sl _ _ _ _ b z1 m' cap hμ hnc hz ho =>
                   intro K Q hK
                   unfold Oper.wp
                   rw [hu] at run
                   rw [Nat.zero_mul] at run
                   rw [Nat.zero_add] at hz ho
                   obtain ⟨hm', C, tt, fr, hh, hcs, hf, hle, hrow⟩ := h.obs id _ _ hg hμ
                   subst hm'
                   obtain ⟨hblt, hbb⟩ := h.own id b _ hμ
                   have hnD := (h.kd id b _ _ hμ hg (by simp)).2 hic
                   by_cases hroom : n + m <= cap
                   ·
                     have hfit : n * ei'.size + news.length <= C.size := by
                       rw [n1, <- Nat.add_mul, hcs]
                       exact Nat.le_trans (Nat.mul_le_mul_right _ hroom) hz
                     have h1news : ∀ u ∈ news, one u := by
                       intro u hu'
                       obtain ⟨q, hq⟩ := List.getElem?_of_mem hu'
                       have hql : q < m * ei'.size := by rw [<- n1]; exact (List.getElem?_eq_some_iff.1 hq).1
                       obtain ⟨v, v1, v2, _⟩ := n4 (q / ei'.size) (q % ei'.size) (Nat.div_lt_of_lt_mul (by rw [Nat.mul_comm]; exact hql)) (Nat.mod_lt _ (by omega))
                       rw [show q / ei'.size * ei'.size + q % ei'.size = q by rw [Nat.mul_comm]; exact Nat.div_add_mod q _] at v1
                       rw [hq] at v1; cases v1; exact v2
                     have hst := zdz P b (n * ei'.size) tt fr news 0 C w hh (by rw [hcs]; exact hf.1) (by omega) h1news
                     rw [Nat.add_zero] at hst
                     have hr := zds (P := P) w t t' o.type e' ei' ok1 hni hei' (some ⟨b, 0, none⟩) n cap (a.eval y) m news n2 n3 hroom (w' := w.setRow b (zb9 C (n * ei'.size) news)) (fun ad had => by
                       cases had
                       rw [zbe, Nat.zero_add]
                       exact hst) (fun hx => by cases hx)
                     rw [run _ _ hr]
                     have hfree : ∀ i o2 z2, μ i = some (some (b, z2)) -> zb5 g [(id, .gone)] i = some o2 -> o2 = .gone := by
                       intro i o2 z2 k1 k2
                       by_cases k3 : id = i
                       · subst k3
                         simp [zb5, za3, za6] at k2
                         exact k2.symm
                       · simp [zb5, za3, zan k3] at k2
                         by_cases k4 : o2 = .gone
                         · exact k4
                         · exact absurd (h.inj id i b _ z2 _ o2 hμ k1 hg k2 (by simp) k4) k3
                     have hgone := h.gone hg
                     have hd2 : zb5 g [(id, .gone)] d = none := by simp [zb5, za3, zan (fun x => hdid x.symm : ¬ id = d), hnew]
                     have had := hgone.adopt (d := d) (yj1 (hd _ hdst) h.ntb) hd2 (b := b) (z := z1) (m := n + m) hblt hbb hnD hfree (ob := .row e' ei'.size (n + m) jg) (by simp) (zb9 C (n * ei'.size) news) (fun hD => by
                       refine ⟨rfl, _, tt, fr, setRow_heap w b C _ tt fr hh, by rw [zb1, hcs], ⟨hf.1, hf.2.1, zda hf.2.2.1 h1news, hf.2.2.2⟩, Nat.le_trans (Nat.mul_le_mul_right _ hroom) hz, ?_⟩
                       rw [hjg]
                       refine zpk (C := fun k => (zb9 C (n * ei'.size) news)[k]?) (fun i j hi hj => ?_) (fun i j hi hj => ?_)
                       · obtain ⟨v, v1, v2, v3⟩ := hrow i j (by omega) hj
                         have hlt := (Array.getElem?_eq_some_iff.1 v1).1
                         refine ⟨v, ?_, v2, v3.mono hD (fun _ h => h) (fun _ _ h => h)⟩
                         rw [zb6 _ _ _ _ hlt, if_neg]
                         · exact v1
                         · have h3 : (i + 1) * ei'.size <= n * ei'.size := Nat.mul_le_mul_right _ hi
                           rw [Nat.add_mul] at h3
                           omega
                       · obtain ⟨v, v1, v2, v3⟩ := n4 i j hi hj
                         have hlt := (List.getElem?_eq_some_iff.1 v1).1
                         refine ⟨v, ?_, v2, v3.mono hD (fun _ h => h) (fun _ _ h => h)⟩
                         rw [zb6 _ _ _ _ (by omega), if_pos ⟨by omega, by omega⟩, Nat.add_sub_cancel_left]
                         exact v1)
                     have hput := had.put hd (u := .slice (some ⟨b, 0, none⟩) (n + m) cap) (v := .sl d ei'.size 0 (n + m)) (by
                       have := R.sl (h := (w.setRow b (zb9 C (n * ei'.size) news)).heap) (D := D) (μ := fun i => if i = d then some (some (b, z1, n + m)) else μ i) d ei'.size 0 (n + m) b z1 (n + m) cap (by simp) hroom (by simpa using hz) (by omega)
                       simpa using this)
                     have e2 : zb5 (zb5 g [(id, .gone)]) [(d, .row e' ei'.size (n + m) jg)] = zb5 g [(d, .row e' ei'.size (n + m) jg), (id, .gone)] := by
                       funext k
                       simp only [zb5, za3]
                       by_cases k1 : d = k
                       · subst k1; simp [za6]
                       · by_cases k2 : id = k
                         · subst k2; simp [za6, zan hdid]
                         · simp [zan k1, zan k2]
                     rw [e2] at hput
                     exact hK _ _ ⟨D, (fun i => if i = d then some (some (b, z1, n + m)) else μ i), by rw [zes]; exact hput⟩
                   ·
                     have hg0 : cap < n + m := by omega
                     obtain ⟨olds, o1, o2, o3⟩ := zj2 (P := P) (w := w) ei'.size n b 0 cap (fun i j => C.getD (i * ei'.size + j) undef) (fun i j hi hj => by
                       obtain ⟨v, v1, _⟩ := hrow i j (by omega) hj
                       rw [zbs hh, Nat.zero_add]; exact getD_some (Array.getElem?_eq_some_iff.1 v1).1)
                     have hr := zcf (P := P) w t t' o.type e' ei' z ok1 hni hei' i3 (some ⟨b, 0, none⟩) n cap (a.eval y) m olds news o2 n2 n3 hg0 hb2 (growslice_fits hg0 hb1)
                     rw [run _ _ hr]
                     have hw : Sim base M W nt f g c a w.drew D μ := h.drew
                     obtain ⟨C2, hC2⟩ : ∃ C2, C2 = olds.toArray ++ news.toArray ++ Builtin.zeroCells z.cells (grownCap w (n + m) cap e' - (n + m)) := ⟨_, rfl⟩
                     have hge := grownCap_ge w (n + m) cap e'
                     have hCs : C2.size = grownCap w (n + m) cap e' * ei'.size := by
                       rw [hC2]
                       simp only [Array.size_append, size_zeroCells, List.size_toArray, n1, o1, hzs]
                       rw [<- Nat.add_mul, <- Nat.add_mul]
                       congr 1
                       omega
                     rw [<- hC2]
                     have hle2 : (n + m) * ei'.size <= C2.size := by rw [hCs]; exact Nat.mul_le_mul_right _ hge
                     have hnew' := hw.new (hd _ hdst) hnew (.row e' ei'.size (n + m) jg) C2 e' (n + m) (by simp) (zk4 hw hle2 (zig hC2 (zeb hsp o1 (fun i j hi hj => by
                         obtain ⟨v, v1, v2, _⟩ := hrow i j (by omega) hj
                         have hv1 := getD_some (Array.getElem?_eq_some_iff.1 v1).1
                         rw [hv1] at v1; cases v1
                         exact ⟨_, o3 i j hi hj, v2⟩)) (zeb hsp n1 (fun i j hi hj => by obtain ⟨v, v1, v2, _⟩ := n4 i j hi hj; exact ⟨v, v1, v2⟩)) (zeb hsp (by simp [size_zeroCells, hzs]) (fun i j hi hj => ⟨_, zgw hzs hi hj, i4 _ _ (getD_some (by omega))⟩))) (by
                       rw [hjg]
                       refine zpk (C := fun k => C2[k]?) (fun i j hi hj => ?_) (fun i j hi hj => ?_)
                       · obtain ⟨v, v1, v2, v3⟩ := hrow i j (by omega) hj
                         have hv1 := getD_some (Array.getElem?_eq_some_iff.1 v1).1
                         rw [hv1] at v1; cases v1
                         have h4 := o3 i j hi hj
                         have hlt := (List.getElem?_eq_some_iff.1 h4).1
                         refine ⟨_, ?_, v2, v3⟩
                         rw [hC2, Array.append_assoc]
                         rw [Array.getElem?_append_left (by simpa using hlt)]
                         simpa using h4
                       · obtain ⟨v, v1, v2, v3⟩ := n4 i j hi hj
                         have hlt := (List.getElem?_eq_some_iff.1 v1).1
                         refine ⟨v, ?_, v2, v3⟩
                         rw [hC2, Array.append_assoc]
                         rw [Array.getElem?_append_right (by simp [o1]), Array.getElem?_append_left (by simp [o1]; omega)]
                         simp [o1, v1]))
                     refine hK _ _ (finish _ _ ⟨_, _, hnew'.put hd ?_⟩)
                     have := R.sl (h := (w.drew.alloc (.cells C2 e')).heap) (D := D) (μ := fun id => if id = d then some (some (w.drew.heap.size, C2.size, n + m)) else μ id) d ei'.size 0 (n + m) w.heap.size C2.size (n + m) (grownCap w (n + m) cap e') (by simp) hge (by rw [hCs]; simp) (by omega)
                     simpa using this
               rw [hjg] at main
               exact main
           · rename_i ty cs hsz hic hg
             have hic := hice _ hic
             have hg := hob _ _ hg
             obtain rfl := za4 hsz
             split
             rotate_left
             · trivial
             rename_i k1 k2 k3
             have k1 := zbh k1
             have k3 := zd2 k3
             rw [zal] at k1
             obtain rfl : e' = ty := (za4 k2).symm
             intro hb
             have hb' : (n + m) * ei'.bytes <= 140737488355328 /\ n + m <= 9223372036854775807 := by simpa [L3, std, zc0] using hb
             obtain ⟨hb1, hb2⟩ := hb'
             rw [hsrc0]
             have hdid : d ≠ id := by rintro rfl; rw [hnew] at hg; cases hg
             obtain ⟨ncs, hncs⟩ : ∃ ncs, ncs = zcb (zco cs (n * ei'.size)) (znq (yal src ei'.size) 0 (m * ei'.size)) := ⟨_, rfl⟩
             have hnl : ncs.length = (n + m) * ei'.size := by
               rw [hncs, zau, zb0, List.length_append, List.length_take, zh0, Nat.add_mul]
               omega
             have hleft : ∀ q, q < n * ei'.size -> ncs[q]? = cs[q]? := by
               intro q hq
               rw [hncs, zau, zb0, List.getElem?_append_left (by rw [List.length_take]; omega), List.getElem?_take, if_pos hq]
             have hright : ∀ q x, n * ei'.size <= q -> ncs[q]? = some x -> q - n * ei'.size < m * ei'.size /\ x = src ((q - n * ei'.size) / ei'.size) ((q - n * ei'.size) % ei'.size) := by
               intro q x hq hx
               have hlt := (List.getElem?_eq_some_iff.1 hx).1
               rw [hnl, Nat.add_mul] at hlt
               rw [hncs, zau, zb0, List.getElem?_append_right (by rw [List.length_take]; omega), List.length_take, Nat.min_eq_left k1, zeo, if_pos (by omega), ykf _ _ _ (by omega), Nat.zero_add] at hx
               cases hx
               exact ⟨by omega, rfl⟩
             have hnews : ∀ q, q < m * ei'.size -> ∃ v, news[q]? = some v /\ one v /\ R w.heap D zav (src (q / ei'.size) (q % ei'.size)) v := by
               intro q hq
               obtain ⟨v, v1, v2, v3⟩ := n4 (q / ei'.size) (q % ei'.size) (Nat.div_lt_of_lt_mul (by rw [Nat.mul_comm]; exact hq)) (Nat.mod_lt _ (by omega))
               rw [show q / ei'.size * ei'.size + q % ei'.size = q by rw [Nat.mul_comm]; exact Nat.div_add_mod q _] at v1
               exact ⟨v, v1, v2, v3⟩
             have finish : ∀ a' w', zhy base M W nt (zn3 f o.dst (.sl d ei'.size 0 (n + m))) (zb5 g [(d, .spr e' ncs)]) c a' w' -> zhy base M W nt (zn3 f o.dst (.sl d ei'.size 0 (n + m))) (zb5 g [(d, .spr e' ncs), (id, .gone)]) (zkv c []) a' w' := by
               rintro a' w' ⟨D', μ', hsim⟩
               have hid : zb5 g [(d, .spr e' ncs)] id = some (.spr e' cs) := by
                 simp [zb5, za3, zan hdid, hg]
               have := hsim.gone hid
               refine ⟨D', μ', ?_⟩
               rw [zes]
               have e2 : zb5 (zb5 g [(d, .spr e' ncs)]) [(id, .gone)] = zb5 g [(d, .spr e' ncs), (id, .gone)] := by
                 funext k
                 simp only [zb5, za3]
                 by_cases k1 : d = k
                 · subst k1
                   simp [za6, zan (fun x => hdid x.symm : ¬ id = d)]
                 · by_cases k2 : id = k
                   · subst k2; simp [za6, zan hdid]
                   · simp [zan k1, zan k2]
               rw [<- e2]
               exact this
             have main : Adv P base M W nt f g c o a w (.sl d ei'.size 0 (n + m)) [(d, .spr e' ncs), (id, .gone)] [] := by
               generalize hu : a.eval x = u at hs
               cases hs with
               | slv _ _ ad hμ => exact absurd k3 (Nat.lt_irrefl _)
               | sl0 _ _ _ b z m' o' hμ ho => exact absurd k3 (Nat.lt_irrefl _)
               | sl _ _ _ _ b z1 m' cap hμ hnc hz ho =>
                 intro K Q hK
                 unfold Oper.wp
                 rw [hu] at run
                 rw [Nat.zero_mul] at run
                 rw [Nat.zero_add] at hz ho
                 obtain ⟨C, tt, fr, hh, hcs, hf, hlz, hrow⟩ := h.obs id _ _ hg hμ
                 obtain ⟨hblt, hbb⟩ := h.own id b _ hμ
                 have hnD := (h.kd id b _ _ hμ hg (by simp)).2 hic
                 by_cases hroom : n + m <= cap
                 ·
                   have hfit : n * ei'.size + news.length <= C.size := by
                     rw [n1, <- Nat.add_mul, hcs]
                     exact Nat.le_trans (Nat.mul_le_mul_right _ hroom) hz
                   have h1news : ∀ u ∈ news, one u := by
                     intro u hu'
                     obtain ⟨q, hq⟩ := List.getElem?_of_mem hu'
                     have hql : q < m * ei'.size := by rw [<- n1]; exact (List.getElem?_eq_some_iff.1 hq).1
                     obtain ⟨v, v1, v2, _⟩ := hnews q hql
                     rw [hq] at v1; cases v1; exact v2
                   have hst := zdz P b (n * ei'.size) tt fr news 0 C w hh (by rw [hcs]; exact hf.1) (by omega) h1news
                   rw [Nat.add_zero] at hst
                   have hr := zds (P := P) w t t' o.type e' ei' ok1 hni hei' (some ⟨b, 0, none⟩) n cap (a.eval y) m news n2 n3 hroom (w' := w.setRow b (zb9 C (n * ei'.size) news)) (fun ad had => by
                     cases had
                     rw [zbe, Nat.zero_add]
                     exact hst) (fun hx => by cases hx)
                   rw [run _ _ hr]
                   have hfree : ∀ i o2 z2, μ i = some (some (b, z2)) -> zb5 g [(id, .gone)] i = some o2 -> o2 = .gone := by
                     intro i o2 z2 k1 k2
                     by_cases k3 : id = i
                     · subst k3
                       simp [zb5, za3, za6] at k2
                       exact k2.symm
                     · simp [zb5, za3, zan k3] at k2
                       by_cases k4 : o2 = .gone
                       · exact k4
                       · exact absurd (h.inj id i b _ z2 _ o2 hμ k1 hg k2 (by simp) k4) k3
                   have hgone := h.gone hg
                   have hd2 : zb5 g [(id, .gone)] d = none := by simp [zb5, za3, zan (fun x => hdid x.symm : ¬ id = d), hnew]
                   have had := hgone.adopt (d := d) (yj1 (hd _ hdst) h.ntb) hd2 (b := b) (z := z1) (m := n + m) hblt hbb hnD hfree (ob := .spr e' ncs) (by simp) (zb9 C (n * ei'.size) news) (fun hD => by
                     refine ⟨_, tt, fr, setRow_heap w b C _ tt fr hh, by rw [zb1, hcs], hf, by rw [hnl]; exact Nat.le_trans (Nat.mul_le_mul_right _ hroom) hz, fun q x hx => ?_⟩
                     by_cases hq : q < n * ei'.size
                     · rw [hleft q hq] at hx
                       obtain ⟨v, v1, v2, v3⟩ := hrow q x hx
                       have hlt := (Array.getElem?_eq_some_iff.1 v1).1
                       refine ⟨v, ?_, v2, v3.mono hD (fun _ h => h) (fun _ _ h => h)⟩
                       rw [zb6 _ _ _ _ hlt, if_neg (by omega)]
                       exact v1
                     · obtain ⟨q1, rfl⟩ := hright q x (by omega) hx
                       obtain ⟨v, v1, v2, v3⟩ := hnews _ q1
                       refine ⟨v, ?_, v2, v3.mono hD (fun _ h => h) (fun _ _ h => by cases h)⟩
                       rw [zb6 _ _ _ _ (by rw [n1] at hfit; omega), if_pos ⟨by omega, by rw [n1]; omega⟩]
                       exact v1)
                   have hput := had.put hd (u := .slice (some ⟨b, 0, none⟩) (n + m) cap) (v := .sl d ei'.size 0 (n + m)) (by
                     have := R.sl (h := (w.setRow b (zb9 C (n * ei'.size) news)).heap) (D := D) (μ := fun i => if i = d then some (some (b, z1, n + m)) else μ i) d ei'.size 0 (n + m) b z1 (n + m) cap (by simp) hroom (by simpa using hz) (by omega)
                     simpa using this)
                   have e2 : zb5 (zb5 g [(id, .gone)]) [(d, .spr e' ncs)] = zb5 g [(d, .spr e' ncs), (id, .gone)] := by
                     funext k
                     simp only [zb5, za3]
                     by_cases k1 : d = k
                     · subst k1; simp [za6]
                     · by_cases k2 : id = k
                       · subst k2; simp [za6, zan hdid]
                       · simp [zan k1, zan k2]
                   rw [e2] at hput
                   exact hK _ _ ⟨D, (fun i => if i = d then some (some (b, z1, n + m)) else μ i), by rw [zes]; exact hput⟩
                 ·
                   have hg0 : cap < n + m := by omega
                   have hone : ∀ i j, i < n -> j < ei'.size -> i * ei'.size + j < n * ei'.size := by
                     intro i j hi hj
                     have h3 : (i + 1) * ei'.size <= n * ei'.size := Nat.mul_le_mul_right _ hi
                     rw [Nat.add_mul] at h3
                     omega
                   obtain ⟨olds, o1, o2, o3⟩ := zj2 (P := P) (w := w) ei'.size n b 0 cap (fun i j => C.getD (i * ei'.size + j) undef) (fun i j hi hj => by
                     have hq := hone i j hi hj
                     obtain ⟨v, v1, _⟩ := hrow (i * ei'.size + j) _ (List.getElem?_eq_getElem (show i * ei'.size + j < cs.length by omega))
                     rw [zbs hh, Nat.zero_add]; exact getD_some (Array.getElem?_eq_some_iff.1 v1).1)
                   have hr := zcf (P := P) w t t' o.type e' ei' z ok1 hni hei' i3 (some ⟨b, 0, none⟩) n cap (a.eval y) m olds news o2 n2 n3 hg0 hb2 (growslice_fits hg0 hb1)
                   rw [run _ _ hr]
                   have hw : Sim base M W nt f g c a w.drew D μ := h.drew
                   obtain ⟨C2, hC2⟩ : ∃ C2, C2 = olds.toArray ++ news.toArray ++ Builtin.zeroCells z.cells (grownCap w (n + m) cap e' - (n + m)) := ⟨_, rfl⟩
                   have hge := grownCap_ge w (n + m) cap e'
                   have hCs : C2.size = grownCap w (n + m) cap e' * ei'.size := by
                     rw [hC2]
                     simp only [Array.size_append, size_zeroCells, List.size_toArray, n1, o1, hzs]
                     rw [<- Nat.add_mul, <- Nat.add_mul]
                     congr 1
                     omega
                   rw [<- hC2]
                   have hle2 : (n + m) * ei'.size <= C2.size := by rw [hCs]; exact Nat.mul_le_mul_right _ hge
                   have hDal : ∀ k, D k -> (w.drew.alloc (.cells C2 e')).heap[k]? = w.heap[k]? := fun k hk => Below.heap_alloc _ _ _ (h.dlt k hk)
                   have hnew' := hw.new (hd _ hdst) hnew (.spr e' ncs) C2 e' (n + m) (by simp) (by
                     refine ⟨C2, e', _, heap_alloc_new _ _, rfl, ⟨zik _, rfl⟩, by rw [hnl]; exact hle2, fun q x hx => ?_⟩
                     by_cases hq : q < n * ei'.size
                     · rw [hleft q hq] at hx
                       obtain ⟨v, v1, v2, v3⟩ := hrow q x hx
                       have hv1 := getD_some (Array.getElem?_eq_some_iff.1 v1).1
                       rw [hv1] at v1; cases v1
                       have h4 := o3 (q / ei'.size) (q % ei'.size) (Nat.div_lt_of_lt_mul (by rw [Nat.mul_comm]; exact hq)) (Nat.mod_lt _ (by omega))
                       rw [show q / ei'.size * ei'.size + q % ei'.size = q by rw [Nat.mul_comm]; exact Nat.div_add_mod q _] at h4
                       have hlt := (List.getElem?_eq_some_iff.1 h4).1
                       refine ⟨_, ?_, v2, v3.mono hDal (fun _ h => h) (fun _ _ h => h)⟩
                       rw [hC2, Array.append_assoc]
                       rw [Array.getElem?_append_left (by simpa using hlt)]
                       simpa using h4
                     · obtain ⟨q1, rfl⟩ := hright q x (by omega) hx
                       obtain ⟨v, v1, v2, v3⟩ := hnews _ q1
                       have hlt := (List.getElem?_eq_some_iff.1 v1).1
                       refine ⟨v, ?_, v2, v3.mono hDal (fun _ h => h) (fun _ _ h => by cases h)⟩
                       rw [hC2, Array.append_assoc]
                       rw [Array.getElem?_append_right (by simp [o1]; omega), Array.getElem?_append_left (by simp [o1]; omega)]
                       simp [o1, v1])
                   refine hK _ _ (finish _ _ ⟨_, _, hnew'.put hd ?_⟩)
                   have := R.sl (h := (w.drew.alloc (.cells C2 e')).heap) (D := D) (μ := fun id => if id = d then some (some (w.drew.heap.size, C2.size, n + m)) else μ id) d ei'.size 0 (n + m) w.heap.size C2.size (n + m) (grownCap w (n + m) cap e') (by simp) hge (by rw [hCs]; simp) (by omega)
                   simpa using this
             rw [hncs] at main
             exact main
           · trivial
         · trivial
       · trivial
     · trivial
   · trivial
end
end Sy
end Go.Proofs.YtogpolfhcbgcbaaGreatDoor
namespace Go.Proofs.YtogpolfhcbgcbaaGreatDoor
namespace Sy
open Go Go.RowKit
set_option linter.unusedSimpArgs false
set_option linter.unusedVariables false
set_option linter.unusedSectionVars false
section
variable {P : Program} {T : TT} {base : Nat} {M : Two} {W : World} {nt : Nat} {f : Nat -> Option AV} {g : Nat -> Option Ob} {c : Nat -> Bool} {a : Act} {w : World} {D : Nat -> Prop} {μ : Mu} {o : Oper}
theorem Sim.trash (h : Sim base M W nt f g c a w D μ) {id b : Nat} {z : Nat × Nat} {ob : Ob} (hμ : μ id = some (some (b, z))) (hg : g id = some ob) (hne : ob ≠ .gone) (hc : c id = false) {w' : World}
   (hos : w'.os = w.os) (htape : w'.tape = w.tape) (hout : w'.output = w.output) (hsz : w'.heap.size = w.heap.size) (hb : ∀ k, k ≠ b -> w'.heap[k]? = w.heap[k]?) : Sim base M W nt f (zb5 g [(id, .gone)]) c a w' D μ := by
 have hnD : ¬ D b := (h.kd id b z ob hμ hg hne).2 hc
 have hbase := (h.own id b z hμ).2
 have hD : ∀ k, D k -> w'.heap[k]? = w.heap[k]? := fun k hk => hb k (by rintro rfl; exact hnD hk)
 have hgp : ∀ i, zb5 g [(id, .gone)] i = if i = id then some .gone else g i := by
   intro i
   by_cases e : i = id
   · subst e; simp [zb5, za3, za6]
   · simp [zb5, za3, zan (fun x => e x.symm : ¬ id = i), e]
 have h' := h.gone hg
 exact {
   os := hos.trans h.os, tape := htape.trans h.tape, output := hout.trans h.output
   size := by rw [hsz]; exact h.size
   bs := by rw [hsz]; exact h.bs
   old := fun k h1 h2 => by
     rw [hb k (by
       rintro rfl
       rcases hbase with h3 | h3
       · omega
       · exact h2 h3)]
     exact h.old k h1 h2
   defers := h.defers, tmps := h.tmps
   slots := fun s v hv => (h.slots s v hv).mono hD (fun _ h => h) (fun _ _ h => h)
   dlt := fun k hk => by rw [hsz]; exact h.dlt k hk
   low := h.low
   dom := h'.dom
   obs := fun i o' x h1 h2 => by
     by_cases e : i = id
     · rw [hgp, if_pos e] at h1; cases h1
       cases x <;> exact trivial
     · have h1' := h1
       rw [hgp, if_neg e] at h1
       refine (h.obs i o' x h1 h2).mono hD (fun _ h => h) (fun _ _ h => h) (fun b' z' hx hne2 => hb b' ?_)
       rintro rfl
       subst hx
       exact e (h.inj i id b' z' z o' ob h2 hμ h1 hg hne2 hne)
   inj := h'.inj
   own := fun i b1 z1 h1 => by rw [hsz]; exact h.own i b1 z1 h1
   kd := h'.kd
   icy := h'.icy
   ntb := h.ntb
   pin := h.pin
   gl := h.gl }
theorem zu7 (w : World) (p : Addr) (n : Nat) : (w.freeze p n).heap.size = w.heap.size := by
 unfold World.freeze; split <;> simp
theorem zrq (w : World) (p : Addr) (n : Nat) {k : Nat} (hk : k ≠ p.block) : (w.freeze p n).heap[k]? = w.heap[k]? := by
 unfold World.freeze
 split
 · rfl
 · simp only [Array.getElem?_modify]
   rw [if_neg (fun e => hk e.symm)]
theorem zu8 (w : World) (p : Addr) (n : Nat) : (w.freeze p n).os = w.os /\ (w.freeze p n).tape = w.tape /\ (w.freeze p n).output = w.output := by
 unfold World.freeze; split <;> exact ⟨rfl, rfl, rfl⟩
variable (h : Sim base M W nt f g c a w D μ) (hd : ∀ d, o.dst = some d -> d < nt)
include h hd
theorem zxz {x : Operand} {ts : Array TypeId} (e : o.op = .call { callee := .builtin .unsafeSliceData, args := #[x], argTypes := ts }) {vals : List AV} (hv : Ops w.heap D μ a [x] vals) : zc7 P base M W nt f g c o a w (zs6 std vals) := by
 unfold zs6
 split
 · rename_i id n
   obtain ⟨hx, _⟩ := hv
   intro hb
   have hn : 0 < n := zd2 hb
   have run : ∀ u, (Builtin.unsafeSliceData_ ts o.type #[a.eval x]).run P w = .ok u w -> (execOp a.eval o).run P w = .ok (.value u) w := by
     intro u hu
     unfold execOp
     rw [e]
     simp [resolve, invoke, builtin, hu]
   generalize a.eval x = u at hx run
   cases hx with
   | slv => omega
   | sl0 => omega
   | sl _ _ _ _ b z m cap hm hnc hz ho =>
     have := R.eref (h := w.heap) (D := D) (μ := μ) id 1 0 0 b z m hm (by omega)
     rw [show 0 * 1 + 0 = 0 * 1 by omega] at this
     exact za0 h hd (run _ (Lib.run_unsafeSliceData_row w ts o.type _ n cap (by omega))) this
 · trivial
theorem ybv (hT : zbw P T) {x y : Operand} {t t2 : Nat} {ts : Array TypeId} (hts : ts.toList = [t, t2]) (e : o.op = .call { callee := .builtin .unsafeString, args := #[x, y], argTypes := ts }) {vals : List AV} (hv : Ops w.heap D μ a [x, y] vals)
   {ob : Nat -> Option Ob} (hob : ∀ id z, ob id = some z -> g id = some z) {ice : Nat -> Bool} (hice : ∀ id, ice id = false -> c id = false) : zc7 P base M W nt f g c o a w (zup T std t ob ice vals) := by
 obtain rfl : ts = #[t, t2] := by apply Array.ext'; simpa using hts
 unfold zup
 split
 · rename_i id n
   obtain ⟨hx, hy, _⟩ := hv
   split
   · rename_i ty m get pi hic hg hpi
     have hg := hob _ _ hg
     have hic := hice _ hic
     split
     · rename_i el hpt
       split
       · rename_i hty hu8
         obtain rfl := za4 hty
         rintro ⟨h0, hm, h63, hby⟩
         have hp := (hT t pi hpi).ptf _ hpt
         have hu := zhs hT hu8
         obtain ⟨ei, hei⟩ : ∃ ei, T.find ty = some ei := by
           unfold yp3 at hu8
           split at hu8
           · rename_i i hi; exact ⟨i, hi⟩
           · cases hu8
         have hag : ei.isAgg = false := by rw [(hT ty ei hei).agg, hu]
         have hc : P.cellsOf ty = 1 := by
           obtain ⟨j, zv, hj, hj2, _⟩ := (hT ty ei hei).info
           rw [Program.cellsOf, hj]; simpa [(hT ty ei hei).single hag] using hj2
         have hyv := hy.inv_int
         have run : ∀ u w', (Builtin.unsafeString_ #[t, t2] o.type #[a.eval x, a.eval y]).run P w = .ok u w' -> (execOp a.eval o).run P w = .ok (.value u) w' := by
           intro u w' hu
           unfold execOp
           rw [e]
           simp [resolve, invoke, builtin, hu]
         rw [hyv] at run
         generalize a.eval x = u at hx run
         cases hx with
         | eref _ _ _ _ b z mm hμ hi =>
           obtain ⟨hmm, C, t', fr, hh, hcs, ⟨_, rfl, _⟩, hle, hrow⟩ := h.obs id _ _ hg hμ
           obtain ⟨l, hl⟩ : ∃ l, l = zbf n.toNat (fun i => (get i 0).toI) := ⟨_, rfl⟩
           have hlen : l.length = n.toNat := by rw [hl]; simp [zbf]
           have hcell : ∀ j q, l[j]? = some q -> w.cell? ((⟨b, 0, none⟩ : Addr).add j) = some (.int .u8 q.toNat) := by
             intro j q hq
             have hj : j < n.toNat := by rw [<- hlen]; exact (List.getElem?_eq_some_iff.1 hq).1
             obtain ⟨v, v1, _, v3⟩ := hrow j 0 (by omega) (by omega)
             obtain ⟨xx, x1, x2, x3⟩ := hby j hj
             rw [x1] at v3
             rw [v3.inv_int] at v1
             rw [zbe, zmj, zbs hh]
             rw [hl] at hq
             simp [zbf, hj, x1, AV.toI] at hq
             subst hq
             have : (UInt8.ofNat xx.toNat).toNat = xx.toNat := by
               rw [UInt8.toNat_ofNat']; omega
             rw [this, Nat.zero_add]
             have e1 : ((xx.toNat : Nat) : Int) = xx := by omega
             rw [e1]
             simpa using v1
           have hrun := Lib.run_unsafeString_row (P := P) w t t2 o.type _ hp hc b C.size (by simp [World.shape?, hh]) l (by intro h; rw [h] at hlen; simp at hlen; omega) (by rw [hlen]; omega) (by rw [hlen]; omega) hcell
           have hn : ((l.length : Nat) : Int) = n := by rw [hlen]; omega
           rw [hn] at hrun
           have hdef : (Builtin.unsafeString_ #[t, t2] o.type #[.pointer (some ⟨b, 0 * 1 + 0, none⟩), .int .i64 n]).run P w = .ok (.string ⟨l.toArray⟩) (w.freeze ⟨b, 0, none⟩ l.length) := by
             exact hrun
           have fr := zu8 w ⟨b, 0, none⟩ l.length
           intro K Q hK
           unfold Oper.wp
           rw [run _ _ hdef]
           refine hK _ _ ⟨_, _, (h.trash hμ hg (by simp) hic fr.1 fr.2.1 fr.2.2 (zu7 _ _ _) (fun k hk => zrq _ _ _ hk)).put hd (.str _ _ ?_)⟩
           rw [hl]; rfl
       · trivial
     · trivial
   · trivial
 · trivial
end
end Sy
end Go.Proofs.YtogpolfhcbgcbaaGreatDoor
namespace Go.Proofs.YtogpolfhcbgcbaaGreatDoor
namespace Sy
open Go Go.RowKit
set_option linter.unusedSimpArgs false
set_option linter.unusedVariables false
theorem ybt {h : Array Obj} {D : Nat -> Prop} {μ : Mu} (sz : Nat) {x : AV} {v : Value} (r : R h D μ x v) (y : AV) : R h D μ (yln std sz true x y) v := by
 unfold yln
 split
 · exact zf2 r y
 · exact r
theorem zxv {h : Array Obj} {D : Nat -> Prop} {μ : Mu} (sz : Nat) {y : AV} {v : Value} (r : R h D μ y v) (x : AV) : R h D μ (yln std sz false x y) v := by
 unfold yln
 split
 · exact zd9 r x
 · exact r
section
variable {P : Program} {T : TT} {base : Nat} {M : Two} {W : World} {nt : Nat} {f : Nat -> Option AV} {g : Nat -> Option Ob} {c : Nat -> Bool} {a : Act} {w : World} {D : Nat -> Prop} {μ : Mu} {o : Oper}
variable (h : Sim base M W nt f g c a w D μ) (hd : ∀ d, o.dst = some d -> d < nt)
include h hd
theorem zy5 (hT : zbw P T) {t : TypeId} {x y : Operand} (e : o.op = .index t x y) {vals : List AV} (hv : Ops w.heap D μ a [x, y] vals) : zc7 P base M W nt f g c o a w (yg9 T std t vals) := by
 match vals, hv with
 | [v, v'], ⟨hx, hy, _⟩ =>
   unfold yg9
   split
   · rename_i l k i he
     simp only [List.cons.injEq, and_true] at he
     obtain ⟨rfl, rfl⟩ := he
     split
     · rename_i sz ag ze eqf p1 p2 p3 hi
       have ok : P.underlying t = some .string := (hT t _ hi).k
       intro hb
       obtain ⟨h0, h1⟩ := zep hb
       obtain ⟨s, e1, rfl⟩ := hx.inv_str
       have e2 := hy.inv_int
       have hlt : i.toNat < s.size := by simp [std, slen] at h1; have : (s.data.size : Int) = s.size := rfl; omega
       refine za0 h hd (u := .int .u8 (s[i.toNat]'hlt).toNat) ?_ ?_
       · unfold execOp
         rw [e]
         have : s[i.toNat]? = some (s[i.toNat]'hlt) := by simp [hlt]
         simp [e1, e2, Instr.index, asIntOf, run_underlying ok, h0, this]
       · have : L2 std zhh s.data.toList i = ((s[i.toNat]'hlt).toNat : Int) := by
           have hlt' : i.toNat < s.data.size := hlt
           have h5 : s.data.toList[i.toNat]? = some (s[i.toNat]'hlt) := by
             rw [Array.getElem?_toList, Array.getElem?_eq_getElem hlt']; rfl
           simp only [L2, std, zhh, List.getD, h5, Option.getD_some]
         rw [this]; exact .int _ _
     · trivial
   · rename_i cs k i he
     simp only [List.cons.injEq, and_true] at he
     obtain ⟨rfl, rfl⟩ := he
     split
     · rename_i sz ag ze n e' eqf p1 p2 p3 hi
       have ok := (hT t _ hi).k
       obtain ⟨ok1, ok2⟩ := ok
       obtain ⟨ei', hei', hes⟩ := Option.map_eq_some_iff.1 ok2
       split
       · rename_i ei hlen hei
         have hlen := za4 hlen
         rw [zal] at hlen
         split
         · rename_i hag hs1
           have hs1 := za4 hs1
           intro hb
           obtain ⟨h0, h1⟩ := zep hb
           have h1' : i < (n : Int) := h1
           obtain ⟨us, e1, o1, s1, hr⟩ := hx.inv_agg
           have e2 := hy.inv_int
           have hlt : i.toNat < n := by omega
           have hso : (sizeOf e').run P w = .ok 1 w := by simp [sizeOf, typeInfo, program, Sem.run, hei', hes]
           obtain ⟨u, hu, r⟩ := zfn (P := P) hT hei o1 ⟨s1, hr⟩ (i.toNat * 1) (by rw [hs1]; omega) (fun _ => hs1)
           rw [hag] at r
           have hg := zf3 (cs := cs) (sz := 1) (n := n) (by omega) (i := i.toNat) (j := 0) hlt (by omega)
           have hl : zbn .dead cs (i.toNat * 1) = zji std cs 1 i.toNat 0 := by
             have h5 := zaz .dead cs (i.toNat * 1) (by omega)
             rw [Nat.add_zero] at hg
             rw [h5] at hg
             exact Option.some.inj hg
           rw [hl] at r
           refine za0 h hd (u := u) ?_ r
           unfold execOp
           rw [e]
           rw [Nat.mul_one] at hu
           simp [e1, e2, Instr.index, asIntOf, run_underlying ok1, h0, h1', hso, hu]
         · trivial
       · trivial
     · trivial
   · trivial
theorem yi4 (hT : zbw P T) {t : TypeId} {x : Operand} (e : o.op = .sliceToArrayPointer t x) {vals : List AV} (hv : Ops w.heap D μ a [x] vals)
   {ob : Nat -> Option Ob} (hob : ∀ id z, ob id = some z -> g id = some z) : zc7 P base M W nt f g c o a w (cArr T std t ob vals) := by
 match vals, hv with
 | [v], ⟨hx, _⟩ =>
   simp only [cArr]
   · split
     · rename_i sz ag ze m e' eqf p1 p2 p3 hi
       obtain ⟨ok1, -⟩ := (hT t _ hi).k
       split
       · rename_i n get him
         split
         · rename_i hm
           rw [zcn] at hm
           intro hb
           have hb : m <= n := by
             have hb : zbx m n = true := hb
             rw [zed] at hb
             exact hb
           obtain ⟨l1, l2⟩ := ztz h hob him hx (ids := ze1 v) (fun _ h => h)
           have h' := h.freeze (ze1 v) l2
           intro K Q hK
           unfold Oper.wp
           generalize hu : a.eval x = u at l1
           cases l1 with
           | lst0 => omega
           | lst _ _ _ b oo cap vs hD hc hv h1 hr =>
             have run : (execOp a.eval o).run P w = .ok (.value (.pointer (some ⟨b, oo, none⟩))) w := by
               unfold execOp
               rw [e]
               simp [hu, Instr.arrayAt, run_underlying ok1, show ¬ n < m by omega]
             rw [run]
             exact hK _ _ ⟨_, _, h'.put hd (.iptr m _ b oo (fun j => vs j 0) hD (fun j hj => by have := hv j 0 (by omega) (by omega); simpa using this) (fun j hj => h1 j 0 (by omega) (by omega)) (fun j hj => hr j 0 (by omega) (by omega)))⟩
         · trivial
       · trivial
     · trivial
theorem yca (hT : zbw P T) {t t' : Nat} {x y : Operand} {ts : Array TypeId} (hts : ts.toList = [t, t']) (e : o.op = .call { callee := .builtin .copy, args := #[x, y], argTypes := ts }) {vals : List AV} (hv : Ops w.heap D μ a [x, y] vals)
   {ob : Nat -> Option Ob} (hob : ∀ id z, ob id = some z -> g id = some z) {ice : Nat -> Bool} (hice : ∀ id, ice id = false -> c id = false) :
   zc7 P base M W nt f g c o a w (ygd T std t t' ob ice vals) := by
 obtain rfl : ts = #[t, t'] := by apply Array.ext'; simpa using hts
 unfold ygd
 split
 · rename_i id sz off n xv
   obtain ⟨hx, hy, _⟩ := hv
   split
   · rename_i sz0 ag ze e' esz eb eqf p1 p2 p3 hi
     obtain ⟨ok1, ok2⟩ := (hT t _ hi).k
     obtain ⟨ei', hei', hes⟩ := Option.map_eq_some_iff.1 ok2
     simp only [Prod.mk.injEq] at hes
     obtain ⟨hes1, hes2⟩ := hes
     subst hes1; subst hes2
     split
     · rename_i m src hsrc
       have c1 : zec T t' = true := by cases hx : zec T t' <;> simp_all
       have c2 : zbx 1 ei'.size = true := by cases hx : zbx 1 ei'.size <;> simp_all
       have c3 : (T.find e').isSome = true := by cases hx : (T.find e').isSome <;> simp_all
       rw [c1, c2, c3] at hsrc
       simp only [cond_true] at hsrc
       split
       · rename_i ty sz' k get hsz hic hg
         obtain rfl := za4 hsz
         have hg := hob _ _ hg
         have hic := hice _ hic
         split
         · rename_i hsz'
           obtain rfl := za4 hsz'
           intro hb
           have hb' : 0 < n /\ m <= n := by
             have hb : (zbk 0 n && zbx m n) = true := hb
             rw [Bool.and_eq_true, zcn, zed] at hb
             exact hb
           obtain ⟨news, n1, n2, n3, n4⟩ := zga (P := P) h hob hsrc hy
           have run : ∀ u w', (Builtin.copy_ #[t, t'] o.type #[a.eval x, a.eval y]).run P w = .ok u w' -> (execOp a.eval o).run P w = .ok (.value u) w' := by
             intro u w' hu
             unfold execOp
             rw [e]
             simp [resolve, invoke, builtin, hu]
           generalize a.eval x = u at hx run
           cases hx with
           | slv => omega
           | sl0 => omega
           | sl _ _ _ _ b z mm cap hμ hn hz ho =>
             obtain ⟨hm, C, t0, fr, hh, hcs, hf, hle, hrow⟩ := h.obs id _ _ hg hμ
             subst hm
             have hmz : off * ei'.size + m * ei'.size <= C.size := by
               have h1 : (off + m) * ei'.size <= (off + cap) * ei'.size := Nat.mul_le_mul_right _ (by omega)
               rw [Nat.add_mul] at h1
               omega
             have h1n : ∀ v ∈ news, one v := (fun v hv => by
               obtain ⟨q, hq⟩ := List.getElem?_of_mem hv
               have hql : q < m * ei'.size := by rw [<- n1]; exact (List.getElem?_eq_some_iff.1 hq).1
               have h0 := zbh c2
               obtain ⟨v', v1, v2, v3⟩ := n4 (q / ei'.size) (q % ei'.size) (Nat.div_lt_of_lt_mul (by rw [Nat.mul_comm]; exact hql)) (Nat.mod_lt _ (by omega))
               rw [show q / ei'.size * ei'.size + q % ei'.size = q by rw [Nat.mul_comm]; exact Nat.div_add_mod q ei'.size, hq] at v1
               cases v1
               exact v2)
             have hst := zdz P b (off * ei'.size) t0 fr news 0 C w hh (by rw [hcs]; exact hf.1) (by rw [n1]; omega) h1n
             simp only [Nat.add_zero] at hst
             have hso : (sizeOf e').run P w = .ok ei'.size w := by simp [sizeOf, typeInfo, program, Sem.run, hei']
             have hmin : Nat.min m n = m := Nat.min_eq_left hb'.2
             have hfc := n2 w rfl
             have hrun : (Builtin.copy_ #[t, t'] o.type #[.slice (some ⟨b, off * ei'.size, none⟩) n cap, a.eval y]).run P w = .ok (goInt m) (w.setRow b (zb9 C (off * ei'.size) news)) := by
               simp [Builtin.copy_, run_underlying ok1, n3, hmin, hso, hfc, hst]
             intro K Q hK
             unfold Oper.wp
             rw [run _ _ hrun]
             have h1 := h.write (C' := zb9 C (off * ei'.size) news) (ob' := .row ty ei'.size k (fun i j => yln std ei'.size (L3 std zdk off m i) (src (L2 std Nat.sub i off) j) (get i j))) hμ hg (by simp) (by simp) hic hh (fun hD => by
               refine ⟨rfl, _, t0, fr, setRow_heap w b C _ t0 fr hh, by rw [zb1, hcs], ⟨hf.1, hf.2.1, zda hf.2.2.1 h1n, hf.2.2.2⟩, hle, fun i j hi' hj => ?_⟩
               obtain ⟨y0, y1, y2, y3⟩ := hrow i j hi' hj
               have hin : i * ei'.size + j < C.size := (Array.getElem?_eq_some_iff.1 y1).1
               rw [zb6 _ _ _ _ hin]
               by_cases hseg : off <= i /\ i < off + m
               · have hB : L3 std zdk off m i = true := by
                   show (zbx off i && zbk i (off + m)) = true
                   rw [Bool.and_eq_true, zcn, zed]
                   exact hseg
                 obtain ⟨v, v1, v2, v3⟩ := n4 (i - off) j (by omega) hj
                 have hi1 : i * ei'.size = off * ei'.size + (i - off) * ei'.size := by rw [<- Nat.add_mul]; congr 1; omega
                 have hlt := (List.getElem?_eq_some_iff.1 v1).1
                 have rr : R (w.setRow b (zb9 C (off * ei'.size) news)).heap D zav (yln std ei'.size (L3 std zdk off m i) (src (L2 std Nat.sub i off) j) (get i j)) v := by
                   rw [hB]; exact ybt _ (v3.mono hD (fun _ h => h) (fun _ _ h => h)) _
                 refine ⟨v, ?_, v2, rr⟩
                 rw [if_pos ⟨by omega, by omega⟩, show i * ei'.size + j - off * ei'.size = (i - off) * ei'.size + j by omega]
                 exact v1
               · have hB : L3 std zdk off m i = false := by
                   show (zbx off i && zbk i (off + m)) = false
                   cases hq : (zbx off i && zbk i (off + m)) with
                   | false => rfl
                   | true =>
                     rw [Bool.and_eq_true, zcn, zed] at hq
                     exact absurd hq hseg
                 have rr : R (w.setRow b (zb9 C (off * ei'.size) news)).heap D zav (yln std ei'.size (L3 std zdk off m i) (src (L2 std Nat.sub i off) j) (get i j)) y0 := by
                   rw [hB]; exact zxv _ (y3.mono hD (fun _ h => h) (fun _ _ h => h)) _
                 refine ⟨y0, ?_, y2, rr⟩
                 rw [if_neg]
                 · exact y1
                 · rintro ⟨p1, p2⟩
                   rw [n1] at p2
                   apply hseg
                   constructor
                   · apply Nat.le_of_not_lt
                     intro hlt
                     have h3 : (i + 1) * ei'.size <= off * ei'.size := Nat.mul_le_mul_right _ hlt
                     rw [Nat.add_mul] at h3
                     omega
                   · apply Nat.lt_of_not_le
                     intro hge
                     have h3 : (off + m) * ei'.size <= i * ei'.size := Nat.mul_le_mul_right _ hge
                     rw [Nat.add_mul] at h3
                     omega)
             exact hK _ _ ⟨_, _, h1.put hd (.int _ _)⟩
         · trivial
       · trivial
     · trivial
   · trivial
 · trivial
end
end Sy
end Go.Proofs.YtogpolfhcbgcbaaGreatDoor
namespace Go.Proofs.YtogpolfhcbgcbaaGreatDoor
namespace Sy
open Go Go.RowKit
set_option linter.unusedSimpArgs false
set_option linter.unusedVariables false
theorem zxo.eq {kk : KK} {v : Value} {k k' : Ky} (h : zxo kk v k) (h' : zxo kk v k') : k = k' := by
 cases kk with
 | i ik => obtain ⟨n, rfl, rfl⟩ := h; obtain ⟨n', e, rfl⟩ := h'; cases e; rfl
 | s => obtain ⟨n, rfl, rfl⟩ := h; obtain ⟨n', e, rfl⟩ := h'; cases e; rfl
 | a ks =>
   obtain ⟨l, e1, rfl, rfl⟩ := h; obtain ⟨l', e1', e, rfl⟩ := h'
   congr 1
   have e : ks.zip l = ks.zip l' := by
     have e := congrArg Array.toList (Value.agg.inj e)
     simp only [List.toList_toArray] at e
     refine List.map_inj_right (f := fun x : IntKind × Int => Value.int x.1 x.2) (fun x y hxy => ?_) |>.1 e
     obtain ⟨x1, x2⟩ := x
     obtain ⟨y1, y2⟩ := y
     simp only [Value.int.injEq] at hxy
     rw [hxy.1, hxy.2]
   have := congrArg (List.map Prod.snd) e
   rwa [List.map_snd_zip (by omega), List.map_snd_zip (by omega)] at this
 | no => cases h
theorem zxo.val {kk : KK} {v v' : Value} {k : Ky} (h : zxo kk v k) (h' : zxo kk v' k) : v = v' := by
 cases kk with
 | i ik => obtain ⟨n, rfl, rfl⟩ := h; obtain ⟨n', rfl, e⟩ := h'; cases e; rfl
 | s =>
   obtain ⟨n, rfl, rfl⟩ := h; obtain ⟨n', rfl, e⟩ := h'
   have e := Ky.s.inj e
   congr 1
   exact ByteArray.ext (Array.ext' e)
 | a ks =>
   obtain ⟨l, e1, rfl, rfl⟩ := h; obtain ⟨l', e1', rfl, e⟩ := h'
   cases e; rfl
 | no => cases h
def znl : KK -> Bool
 | .i _ => true
 | .s => true
 | _ => false
theorem zjr {a b : KK} (e : ym9 a b = true) : a = b /\ znl b = true := by
 unfold ym9 at e
 split at e
 · obtain rfl := of_decide_eq_true e; exact ⟨rfl, rfl⟩
 · exact ⟨rfl, rfl⟩
 · cases e
theorem zzc {h : Array Obj} {D : Nat -> Prop} {μ : Mu} {kk : KK} {x : AV} {v : Value} {k : Ky} (e : zrh kk x = some k) (r : R h D μ x v) : zxo kk v k := by
 unfold zrh at e
 split at e
 · split at e
   · rename_i hk
     obtain rfl := of_decide_eq_true hk
     cases e; cases r; exact ⟨_, rfl, rfl⟩
   · cases e
 · cases e
   cases r with | str _ s q => subst q; exact ⟨s, rfl, rfl⟩
 · rename_i ks cs
   split at e
   · rename_i l hl
     cases e
     obtain ⟨us, rfl, o1, r1⟩ := r.inv_agg
     have key : ∀ (ks : List IntKind) (cs : List AV) (l : List Int) (us : List Value), znx ks cs = some l -> cs.length = us.length -> (∀ (i : Nat) x v, cs[i]? = some x -> us[i]? = some v -> R h D μ x v) ->
         l.length = ks.length /\ us = (ks.zip l).map fun x => Value.int x.1 x.2 := by
       intro ks
       induction ks with
       | nil =>
         intro cs l us e1 e2 _
         cases cs with
         | nil => cases e1; cases us with | nil => exact ⟨rfl, rfl⟩ | cons _ _ => simp at e2
         | cons _ _ => simp [znx] at e1
       | cons k ks ih =>
         intro cs l us e1 e2 hr
         cases cs with
         | nil => simp [znx] at e1
         | cons c cs =>
           cases us with
           | nil => simp at e2
           | cons u us =>
             unfold znx at e1
             split at e1
             · rename_i q1 q2; cases q1
             · rename_i k2 ks2 k' n xs q1 q2
               cases q1; cases q2
               split at e1
               · rename_i hk
                 obtain rfl := of_decide_eq_true hk
                 split at e1
                 · rename_i l' hl'
                   cases e1
                   obtain ⟨i1, i2⟩ := ih cs l' us hl' (by simpa using e2) (fun i x v h1 h2 => hr (i + 1) x v (by simpa using h1) (by simpa using h2))
                   have h0 := hr 0 _ _ rfl rfl
                   have h0 := h0.inv_int
                   exact ⟨by simp [i1], by simp [i2, h0]⟩
                 · cases e1
               · cases e1
             · cases e1
     obtain ⟨k1, k2⟩ := key ks cs l us.toList hl (by rw [r1.1]; simp) (fun i x v h1 h2 => r1.2 i x v h1 (by simpa using h2))
     refine ⟨l, k1, ?_, rfl⟩
     rw [<- k2]
   · cases e
 · cases e
theorem zos (c : Bool) : ∀ (xs ys : List AV) (i : Nat), xs.length = ys.length -> (yhv std c xs ys)[i]? = match xs[i]?, ys[i]? with | some x, some y => some (zhc std c x y) | _, _ => none
 | [], [], i, _ => by simp [yhv]
 | x :: xs, y :: ys, 0, _ => by simp [yhv]
 | x :: xs, y :: ys, i + 1, e => by simp [yhv, zos c xs ys i (by simpa using e)]
theorem zor (c : Bool) : ∀ (xs ys : List AV), xs.length = ys.length -> (yhv std c xs ys).length = xs.length
 | [], [], _ => by simp [yhv]
 | x :: xs, y :: ys, e => by simp [yhv, zor c xs ys (by simpa using e)]
theorem zlb {h : Array Obj} {D : Nat -> Prop} {μ : Mu} {x : AV} {v : Value} (r : R h D μ x v) (y : AV) : R h D μ (ylm std true x y) v := by
 unfold ylm
 split
 · rename_i xs ys
   split
   · rename_i hl
     have hl := za4 hl
     rw [zal, zal] at hl
     obtain ⟨us, rfl, o1, r1⟩ := r.inv_agg
     refine .agg _ _ (by rw [zor _ _ _ hl, r1.1]) o1 (fun i z u hz hu => ?_)
     rw [zos _ _ _ _ hl] at hz
     split at hz
     · rename_i x y hx hy
       cases hz
       exact zf2 (r1.2 i x u hx hu) y
     · cases hz
   · exact .dead _
 · exact zf2 r _
theorem zjg {h : Array Obj} {D : Nat -> Prop} {μ : Mu} {y : AV} {v : Value} (r : R h D μ y v) (x : AV) : R h D μ (ylm std false x y) v := by
 unfold ylm
 split
 · rename_i xs ys
   split
   · rename_i hl
     have hl := za4 hl
     rw [zal, zal] at hl
     obtain ⟨us, rfl, o1, r1⟩ := r.inv_agg
     refine .agg _ _ (by rw [zor _ _ _ hl, hl, r1.1]) o1 (fun i z u hz hu => ?_)
     rw [zos _ _ _ _ hl] at hz
     split at hz
     · rename_i x y hx hy
       cases hz
       exact zd9 (r1.2 i y u hy hu) x
     · cases hz
   · exact .dead _
 · exact zd9 r _
def MapIs (h : Array Obj) (D : Nat -> Prop) (kk : KK) (n : Nat) (has : Ky -> Bool) (val : Ky -> AV) (b : Nat) (es : Array MapEntry) (clock : Nat) (kf : Nat -> Ky) : Prop :=
 h[b]? = some (.map es clock) /\ es.size = n /\ zfh kk has es clock kf /\ ∀ (i : Nat) e, es[i]? = some e -> R h D zav (val (kf i)) e.val
section
variable {P : Program} {T : TT} {base : Nat} {M : Two} {W : World} {nt : Nat} {f : Nat -> Option AV} {g : Nat -> Option Ob} {c : Nat -> Bool} {a : Act} {w : World} {D : Nat -> Prop} {μ : Mu} {o : Oper}
theorem yjq (hT : zbw P T) {kt : Nat} (hp : znl (zhe T kt) = true) : (∃ k, zhe T kt = .i k /\ P.underlying kt = some (.int k)) \/ zhe T kt = .s /\ P.underlying kt = some .string := by
 cases hf : T.find kt with
 | none => simp [zhe, hf, znl] at hp
 | some i =>
   have hk := (hT _ _ hf).k
   cases hik : i.k with
   | int k => rw [hik] at hk; exact .inl ⟨k, by simp [zhe, hf, hik], hk⟩
   | str => rw [hik] at hk; exact .inr ⟨by simp [zhe, hf, hik], hk⟩
   | _ =>
     exfalso
     simp only [zhe, hf, hik] at hp
     split at hp <;> cases hp
theorem yoz (hT : zbw P T) {kt : Nat} {v : Value} {k : Ky} (h : zxo (zhe T kt) v k) (hp : znl (zhe T kt) = true) : ∃ d, P.underlying kt = some d /\ MapKept.IsKey d v /\ ∀ v' k', zxo (zhe T kt) v' k' -> MapKept.IsKey d v' := by
 rcases yjq hT hp with ⟨ik, e, hu⟩ | ⟨e, hu⟩
 · rw [e] at h |-
   refine ⟨_, hu, ?_, ?_⟩
   · obtain ⟨n, rfl, _⟩ := h; rfl
   · rintro v' k' ⟨n, rfl, _⟩; rfl
 · rw [e] at h |-
   refine ⟨_, hu, ?_, ?_⟩
   · obtain ⟨n, rfl, _⟩ := h; trivial
   · rintro v' k' ⟨n, rfl, _⟩; trivial
theorem zh7 (hT : zbw P T) {kt : Nat} {has : Ky -> Bool} {es : Array MapEntry} {clock : Nat} {kf : Nat -> Ky} (ok : zfh (zhe T kt) has es clock kf) {v : Value} {k : Ky} (hk : zxo (zhe T kt) v k) (hp : znl (zhe T kt) = true) (w : World) :
   (∀ b, (Instr.checkKey b 10000 kt v).run P w = .ok () w) /\ (Instr.keyThatStays v v).run P w = .ok v w /\
   ((has k = false /\ (Instr.findKey kt v es.toList).run P w = .ok none w /\ ∀ x ∈ es.toList, x.key ≠ v) \/
     ∃ j e, has k = true /\ kf j = k /\ es[j]? = some e /\ e.key = v /\ (Instr.findKey kt v es.toList).run P w = .ok (some (j, e.val)) w) := by
 obtain ⟨d, hd, h1, h2⟩ := yoz hT hk hp
 refine ⟨fun b => MapKept.run_checkKey hd h1 b 9999, MapKept.run_keyThatStays h1, ?_⟩
 rcases MapKept.findNow_spec h1 es.toList 0 (fun x hx => by
   obtain ⟨i, hi⟩ := List.getElem?_of_mem hx
   exact h2 _ _ (ok.key i x (by simpa using hi)).1) with ⟨f1, f2⟩ | ⟨j, e, f1, f2, f3⟩
 · refine .inl ⟨?_, MapKept.run_findKey hd f1, f2⟩
   cases hh : has k with
   | false => rfl
   | true =>
     obtain ⟨i, hi, he⟩ := ok.all k hh
     have := (ok.key i es[i] (by simp [hi])).1
     rw [he] at this
     exact absurd (this.val hk) (f2 _ (by simp))
 · have f2 : es[j]? = some e := by simpa using f2
   have := ok.key j e f2
   rw [f3] at this
   have hkk := this.1.eq hk
   exact .inr ⟨j, e, by rw [<- hkk]; exact this.2, hkk, f2, f3, by rw [MapKept.run_findKey hd f1, Nat.zero_add]⟩
variable (h : Sim base M W nt f g c a w D μ) (hd : ∀ d, o.dst = some d -> d < nt)
include h hd
theorem yc3 (hT : zbw P T) {t : TypeId} (e : o.op = .makeMap t none) : zc7 P base M W nt f g c o a w (yqz T o.dst t (zdi g o.op o.dst)) := by
 unfold yqz
 split
 · rename_i d hc
   obtain ⟨hn, hdst⟩ := zc5 hc
   have hnew : g d = none := by
     simp only [zdi, e, zcq, hdst] at hn
     cases hg : g d with
     | none => rfl
     | some _ => rw [hg] at hn; cases hn
   split
   · rename_i sz ag ze kt et eqf p1 p2 p3 hi
     have run : (execOp a.eval o).run P w = .ok (.value (.map (some w.heap.size))) (w.alloc (.map #[] 0)) := by
       unfold execOp
       rw [e]
       simp [Instr.makeMap]
     intro K Q hK
     unfold Oper.wp
     rw [run]
     have h1 := h.newO (hd _ hdst) hnew (.map (zhe T kt) 0 (fun _ => false) (fun _ => .dead)) (.map #[] 0) 0 0 (by simp)
       ⟨#[], 0, fun _ => .i 0, heap_alloc_new _ _, rfl, ⟨fun i x hx => (by simp at hx), fun k hk => (by cases hk), MapKept.stamped_empty 0⟩, fun i x hx => (by simp at hx)⟩
     exact hK _ _ ⟨_, _, h1.put hd (.mp _ _ 0 0 (by simp))⟩
   · trivial
 · trivial
omit hd in
theorem zwb {ob : Nat -> Option Ob} (hob : ∀ id z, ob id = some z -> g id = some z) {m : AV} {kk : KK} {n : Nat} {has : Ky -> Bool} {val : Ky -> AV} (e : yjb ob m = some (kk, n, has, val)) {v : Value} (r : R w.heap D μ m v) :
   ∃ b es clock kf, v = .map (some b) /\ MapIs w.heap D kk n has val b es clock kf := by
 unfold yjb at e
 split at e
 · rename_i id
   split at e
   · rename_i hg
     cases e
     cases r with
     | mp _ b z m hμ =>
       obtain ⟨es, clock, kf, hh⟩ := h.obs id _ _ (hob _ _ hg) hμ
       exact ⟨b, es, clock, kf, rfl, hh⟩
   · cases e
 · cases e
   cases r with
   | mpi _ _ _ _ b es clock kf hD hb hn hk hr => exact ⟨b, es, clock, kf, rfl, hb, hn, hk, hr⟩
 · cases e
theorem yi0 (hT : zbw P T) {x : Operand} {t : Nat} {r : List Nat} {ts : Array TypeId} (hts : ts.toList = t :: r) (e : o.op = .call { callee := .builtin .len, args := #[x], argTypes := ts }) {vals : List AV}
   (hv : Ops w.heap D μ a [x] vals) {ob : Nat -> Option Ob} (hob : ∀ id z, ob id = some z -> g id = some z) : zc7 P base M W nt f g c o a w (cLen T std t ob vals) := by
 match vals, hv with
 | [v], ⟨hv, _⟩ =>
   have run : ∀ u, (Builtin.len_ ts o.type #[a.eval x]).run P w = .ok u w -> (execOp a.eval o).run P w = .ok (.value u) w := by
     intro u hu
     unfold execOp
     rw [e]
     simp [resolve, invoke, builtin, hu]
   have h0 : ts[0]? = some t := by rw [<- Array.getElem?_toList, hts]; rfl
   generalize a.eval x = u at *
   unfold cLen
   simp only
   split
   · rename_i i hi
     have ok := (hT _ i hi).k
     split
     · rename_i hk
       rw [hk] at ok
       split
       · rename_i l
         obtain ⟨s, rfl, rfl⟩ := hv.inv_str
         refine za0 h hd (u := .int .i64 s.size) (run _ ?_) ?_
         · simp [Builtin.len_, h0, run_underlying ok]; rfl
         · have : std slen s.data.toList = (s.size : Int) := by simp [std, slen]
           rw [this]; exact .int _ _
       · trivial
     · rename_i e' esz eb hk
       rw [hk] at ok
       have ok := ok.1
       have slices : ∀ b n cap, u = .slice b n cap -> Adv P base M W nt f g c o a w (.int .i64 (std za7 n)) [] [] := by
         rintro b n cap rfl
         refine za0 h hd (u := .int .i64 n) (run _ ?_) (.int _ _)
         simp [Builtin.len_, h0, run_underlying ok]; rfl
       split
       · cases hv <;> exact slices _ _ _ rfl
       · cases hv <;> exact slices _ _ _ rfl
       · cases hv; exact slices _ 0 _ rfl
       · cases hv; exact slices _ 0 _ rfl
       · cases hv; exact slices _ 0 _ rfl
       · trivial
     · rename_i n e' esz hk
       rw [hk] at ok
       have ok := ok.1
       refine za0 h hd (u := .int .i64 n) (run _ ?_) (.int _ _)
       simp [Builtin.len_, h0, run_underlying ok]; rfl
     · rename_i kt et hk
       rw [hk] at ok
       simp only [kOk] at ok
       split
       · cases hv
         refine za0 h hd (u := .int .i64 0) (run _ ?_) (.int _ _)
         simp [Builtin.len_, h0, run_underlying ok]; rfl
       · split
         · rename_i kk n has val hmo
           obtain ⟨b, es, clock, kf, rfl, hb, hn, -⟩ := zwb h hob hmo hv
           refine za0 h hd (u := .int .i64 n) (run _ ?_) (.int _ _)
           simp [Builtin.len_, h0, run_underlying ok, MapKept.run_getObj_map hb, Result.andThen, hn]; rfl
         · trivial
     · trivial
   · trivial
theorem yc4 (hT : zbw P T) {t : TypeId} {x y : Operand} {ok : Bool} (e : o.op = .lookup t x y ok) {vals : List AV} (hv : Ops w.heap D μ a [x, y] vals) {ob : Nat -> Option Ob} (hob : ∀ id z, ob id = some z -> g id = some z) :
   zc7 P base M W nt f g c o a w (yr0 T std t ok ob vals) := by
 match vals, hv with
 | [m, k], ⟨hm, hk, _⟩ =>
   unfold yr0
   simp only
   split
   · rename_i sz ag ze kt et eqf p1 p2 p3 hi
     have hu := (hT t _ hi).k
     simp only [kOk] at hu
     split
     · rename_i ei hei
       split
       · rename_i kk n has val hmo
         split
         · rename_i key hkk hke
           obtain ⟨rfl, hp⟩ := zjr hkk
           obtain ⟨b, es, clock, kf, hmv, hb, hn, hks, hr⟩ := zwb h hob hmo hm
           have hkey := zzc hke hk
           obtain ⟨f1, f2, f3⟩ := zh7 hT hks hkey hp w
           obtain ⟨z, z1, z2⟩ := (hT et ei hei).zeroR
           have rz : R w.heap D μ (zg1 ei) z := z2 _ _ _
           obtain ⟨u, hrun, ru⟩ : ∃ u, (Instr.lookup t (a.eval x) (a.eval y) ok).run P w = .ok (cond ok (.tuple #[u, .bool (has key)]) u) w /\ R w.heap D μ (ylm std (has key) (val key) (zg1 ei)) u := by
             rcases f3 with ⟨g1, g2, _⟩ | ⟨j, x', g1, g2, g3, g4, g5⟩
             · refine ⟨z, ?_, by rw [g1]; exact zjg rz _⟩
               rw [hmv]
               unfold Instr.lookup
               simp only [Sem.run_bind, run_underlying hu, Result.andThen_ok, MapKept.run_getObj_map hb, f1, g2, z1, Sem.run_pure, g1]
               cases ok <;> rfl
             · have rj := (hr j x' g3).free (μ := μ)
               rw [g2] at rj
               refine ⟨x'.val, ?_, by rw [g1]; exact zlb rj _⟩
               rw [hmv]
               unfold Instr.lookup
               simp only [Sem.run_bind, run_underlying hu, Result.andThen_ok, MapKept.run_getObj_map hb, f1, g5, Sem.run_pure, g1]
               cases ok <;> rfl
           cases ok with
           | true =>
             refine za0 h hd (u := .tuple #[u, .bool (has key)]) ?_ (.tup _ _ rfl (fun i x' v hx hv => ?_))
             · unfold execOp
               rw [e]
               simp [hrun]
             · match i with
               | 0 => simp at hx hv; subst hx; subst hv; exact ru
               | 1 => simp at hx hv; subst hx; subst hv; exact .bool _
               | i + 2 => simp at hx
           | false =>
             refine za0 h hd (u := u) ?_ ru
             unfold execOp
             rw [e]
             simp [hrun]
         · trivial
       · trivial
     · trivial
   · trivial
theorem yhx (hT : zbw P T) {t : TypeId} {x y v : Operand} (e : o.op = .mapUpdate t x y v) {vals : List AV} (hv : Ops w.heap D μ a [x, y, v] vals) {ob : Nat -> Option Ob} (hob : ∀ id z, ob id = some z -> g id = some z) {ice : Nat -> Bool} (hice : ∀ id, ice id = false -> c id = false) :
   zc7 P base M W nt f g c o a w (cMup T std t ob ice vals) := by
 unfold cMup
 split
 · rename_i id k val'
   obtain ⟨hm, hk, hx, _⟩ := hv
   split
   · rename_i sz ag ze kt et eqf p1 p2 p3 hi
     have hu := (hT t _ hi).k
     simp only [kOk] at hu
     split
     · rename_i kk n has val hic hg
       have hic := hice _ hic
       have hg := hob _ _ hg
       split
       · rename_i key hkk hke
         obtain ⟨rfl, hp⟩ := zjr hkk
         split
         · rename_i v' himm hnot
           have hkey := zzc hke hk
           obtain ⟨l2, l1⟩ := yej h hob himm (ids := zwu val') (fun _ h => h)
           have l1 := l1 _ hx
           have h' := h.freeze (zwu val') l2
           have hic' : zkv c (zwu val') id = false := by simp [zkv, hnot, hic]
           generalize hum : a.eval x = um at hm
           cases hm with
           | mp _ b z m hμ =>
             obtain ⟨es, clock, kf, hb, hn, hks, hr⟩ := h'.obs id _ _ hg hμ
             obtain ⟨f1, f2, f3⟩ := zh7 hT hks hkey hp w
             obtain ⟨es', clock', kf', hrun, hn', hks', hr'⟩ : ∃ es' clock' kf', (Instr.mapUpdate t (.map (some b)) (a.eval y) (a.eval v)).run P w = .ok () { w with heap := w.heap.setIfInBounds b (.map es' clock') } /\ es'.size = L2 std ytp (std has key) n /\
                 zfh (zhe T kt) (zir std key has) es' clock' kf' /\ ∀ (i : Nat) e, es'[i]? = some e -> R w.heap (fun b => D b \/ ∃ id z m, id ∈ zwu val' /\ μ id = some (some (b, z, m))) zav (zkz std key v' val (kf' i)) e.val := by
               rcases f3 with ⟨g1, g2, g3⟩ | ⟨j, x', g1, g2, g3, g4, g5⟩
               · refine ⟨es.push { key := a.eval y, val := a.eval v, born := clock }, clock + 1, fun i => if i = es.size then key else kf i, ?_, ?_, ?_, ?_⟩
                 · simp [Instr.mapUpdate, run_underlying hu, MapKept.run_getObj_map hb, f1, g2, MapKept.run_setObj_map _ hb, Result.andThen]
                 · simp [L2, std, ytp, g1, hn]
                 · refine ⟨fun i x' hx' => ?_, fun k' hk' => ?_, MapKept.stamped_push hks.st g3⟩
                   · rw [Array.getElem?_push] at hx'
                     split at hx'
                     · rename_i hi'; cases hx'; rw [if_pos hi']; exact ⟨hkey, by simp [zir, L2, std, zwh]⟩
                     · rename_i hi'; rw [if_neg hi']
                       obtain ⟨q1, q2⟩ := hks.key i x' hx'
                       exact ⟨q1, by simp [zir, L2, std, q2]⟩
                   · simp only [zir, L2, std, zwh, Bool.or_eq_true, decide_eq_true_eq] at hk'
                     rcases hk' with rfl | hk'
                     · exact ⟨es.size, by simp, by simp⟩
                     · obtain ⟨i, i1, i2⟩ := hks.all k' hk'
                       exact ⟨i, by simp; omega, by rw [if_neg (by omega)]; exact i2⟩
                 · intro i x' hx'
                   rw [Array.getElem?_push] at hx'
                   split at hx'
                   · rename_i hi'; cases hx'; simp only [hi', if_true]
                     simp only [zkz, L2, std, zwh, decide_true]
                     exact zlb l1 _
                   · rename_i hi'; simp only [if_neg hi']
                     have hne : ¬ kf i = key := by
                       rintro q
                       have := (hks.key i x' hx').2
                       rw [q, g1] at this; cases this
                     simp only [zkz, L2, std, zwh, decide_eq_false hne]
                     exact zjg (hr i x' hx') _
               · have hlt : j < es.size := (Array.getElem?_eq_some_iff.1 g3).1
                 refine ⟨es.modify j fun e => { e with key := a.eval y, val := a.eval v }, clock, kf, ?_, ?_, ?_, ?_⟩
                 · simp [Instr.mapUpdate, run_underlying hu, MapKept.run_getObj_map hb, f1, f2, g3, g4, g5, MapKept.run_setObj_map _ hb, Result.andThen]
                 · simp [L2, std, ytp, g1, hn]
                 · refine ⟨fun i x2 hx2 => ?_, fun k' hk' => ?_, MapKept.stamped_modify hks.st _ _ (fun _ _ => rfl) (fun e' _ he' => by rw [g3] at he'; cases he'; exact g4.symm)⟩
                   · rw [Array.getElem?_modify] at hx2
                     split at hx2
                     · rename_i hi'
                       subst hi'
                       rw [g3] at hx2
                       cases hx2
                       rw [g2]
                       exact ⟨hkey, by simp [zir, L2, std, zwh]⟩
                     · obtain ⟨q1, q2⟩ := hks.key i x2 hx2
                       exact ⟨q1, by simp [zir, L2, std, q2]⟩
                   · simp only [zir, L2, std, zwh, Bool.or_eq_true, decide_eq_true_eq] at hk'
                     rcases hk' with rfl | hk'
                     · exact ⟨j, by simpa using hlt, g2⟩
                     · obtain ⟨i, i1, i2⟩ := hks.all k' hk'
                       exact ⟨i, by simpa using i1, i2⟩
                 · intro i x2 hx2
                   rw [Array.getElem?_modify] at hx2
                   split at hx2
                   · rename_i hi'
                     subst hi'
                     rw [g3] at hx2
                     cases hx2
                     rw [g2]
                     simp only [zkz, L2, std, zwh, decide_true]
                     exact zlb l1 _
                   · rename_i hi'
                     have hne : ¬ kf i = key := by
                       rintro q
                       have k1 := (hks.key i x2 hx2).1
                       rw [q] at k1
                       have k3 : x2.key = x'.key := by rw [g4]; exact k1.val hkey
                       have hi2 : i < es.size := (Array.getElem?_eq_some_iff.1 hx2).1
                       have nd := hks.st.2.2
                       have p1 : (es.toList.map (·.key))[i]? = some x2.key := by simp [hx2]
                       have p2 : (es.toList.map (·.key))[j]? = some x'.key := by simp [g3]
                       rw [k3, <- p2] at p1
                       have := (List.getElem?_inj (by simpa using hi2) nd).1 p1
                       exact hi' this.symm
                     simp only [zkz, L2, std, zwh, decide_eq_false hne]
                     exact zjg (hr i x2 hx2) _
             have hblt : b < w.heap.size := (Array.getElem?_eq_some_iff.1 hb).1
             have run : (execOp a.eval o).run P w = .ok .skip { w with heap := w.heap.setIfInBounds b (.map es' clock') } := by
               unfold execOp
               rw [e]
               simp [hum, hrun]
             intro K Q hK
             unfold Oper.wp
             rw [run]
             have h1 := h'.turn (ob' := .map (zhe T kt) (L2 std ytp (std has key) n) (zir std key has) (zkz std key v' val)) (w' := { w with heap := w.heap.setIfInBounds b (.map es' clock') }) hμ hg (by simp) trivial hic' rfl rfl rfl (by simp) (fun k' hk' => by simp [Ne.symm hk'])
               (fun hD => ⟨es', clock', kf', by simp [hblt], hn', hks', fun i x' hx' => (hr' i x' hx').mono hD (fun _ h => h) (fun _ _ h => h)⟩)
             exact hK _ _ ⟨_, _, h1.put hd (.dead _)⟩
         · trivial
       · trivial
     · trivial
   · trivial
 · trivial
theorem yc1 (hT : zbw P T) {x y : Operand} {t t' : Nat} {ts : Array TypeId} (hts : ts.toList = [t, t']) (e : o.op = .call { callee := .builtin .delete, args := #[x, y], argTypes := ts }) {vals : List AV} (hv : Ops w.heap D μ a [x, y] vals) {ob : Nat -> Option Ob} (hob : ∀ id z, ob id = some z -> g id = some z) {ice : Nat -> Bool} (hice : ∀ id, ice id = false -> c id = false) :
   zc7 P base M W nt f g c o a w (zus T std t ob ice vals) := by
 have hts' : ts = #[t, t'] := by apply Array.ext'; simpa using hts
 subst hts'
 unfold zus
 split
 · rename_i id k
   obtain ⟨hm, hk, _⟩ := hv
   split
   · rename_i sz ag ze kt et eqf p1 p2 p3 hi
     have hu := (hT t _ hi).k
     simp only [kOk] at hu
     split
     · rename_i kk n has val hic hg
       have hic := hice _ hic
       have hg := hob _ _ hg
       split
       · rename_i key hkk hke
         obtain ⟨rfl, hp⟩ := zjr hkk
         have hkey := zzc hke hk
         generalize hum : a.eval x = um at hm
         cases hm with
         | mp _ b z m hμ =>
           obtain ⟨es, clock, kf, hb, hn, hks, hr⟩ := h.obs id _ _ hg hμ
           obtain ⟨f1, f2, f3⟩ := zh7 hT hks hkey hp w
           obtain ⟨es', kf', hrun, hn', hks', hr'⟩ : ∃ es' kf', (Builtin.delete_ #[t, t'] o.type #[.map (some b), a.eval y]).run P w = .ok (.tuple #[]) { w with heap := w.heap.setIfInBounds b (.map es' clock) } /\ es'.size = L2 std ytq (std has key) n /\
               zfh (zhe T kt) (zk9 std key has) es' clock kf' /\ ∀ (i : Nat) e, es'[i]? = some e -> R w.heap D zav (val (kf' i)) e.val := by
             rcases f3 with ⟨g1, g2, g3⟩ | ⟨j, x', g1, g2, g3, g4, g5⟩
             · refine ⟨es, kf, ?_, by simp [L2, std, ytq, g1, hn], ⟨fun i x' hx' => ⟨(hks.key i x' hx').1, ?_⟩, fun k' hk' => hks.all k' ?_, hks.st⟩, hr⟩
               · simp [Builtin.delete_, run_underlying hu, MapKept.run_getObj_map hb, f1, g2, MapKept.run_setObj_map _ hb, Result.andThen]
               · have q := (hks.key i x' hx').2
                 have hne : ¬ kf i = key := by rintro e'; rw [e', g1] at q; cases q
                 simp [zk9, L2, std, zwh, yvl, hne, q]
               · simp only [zk9, L2, std, yvl, Bool.and_eq_true] at hk'; exact hk'.2
             · have hlt : j < es.size := (Array.getElem?_eq_some_iff.1 g3).1
               have hers : ∀ i : Nat, (es.eraseIdxIfInBounds j)[i]? = if i < j then es[i]? else es[i + 1]? := by
                 intro i
                 unfold Array.eraseIdxIfInBounds
                 rw [dif_pos hlt, Array.getElem?_eraseIdx]
               have inj : ∀ i e, es[i]? = some e -> kf i = key -> i = j := by
                 intro i e1 he1 q
                 have k1 := (hks.key i e1 he1).1
                 rw [q] at k1
                 have k3 : e1.key = x'.key := by rw [g4]; exact k1.val hkey
                 have hi2 : i < es.size := (Array.getElem?_eq_some_iff.1 he1).1
                 have p1 : (es.toList.map (·.key))[i]? = some e1.key := by simp [he1]
                 have p2 : (es.toList.map (·.key))[j]? = some x'.key := by simp [g3]
                 rw [k3, <- p2] at p1
                 exact (List.getElem?_inj (by simpa using hi2) hks.st.2.2).1 p1
               refine ⟨es.eraseIdxIfInBounds j, fun i => if i < j then kf i else kf (i + 1), ?_, ?_, ⟨fun i x2 hx2 => ?_, fun k' hk' => ?_, MapKept.stamped_erase hks.st j⟩, fun i x2 hx2 => ?_⟩
               · simp [Builtin.delete_, run_underlying hu, MapKept.run_getObj_map hb, f1, g5, MapKept.run_setObj_map _ hb, Result.andThen]
               · simp only [L2, std, ytq, g1, cond_true, <- hn]
                 unfold Array.eraseIdxIfInBounds
                 rw [dif_pos hlt]
                 simp
               · rw [hers] at hx2
                 have fin : ∀ i' (e2 : MapEntry), es[i']? = some e2 -> i' ≠ j -> zxo (zhe T kt) e2.key (kf i') /\ zk9 std key has (kf i') = true := by
                   intro i' e2 he2 hne
                   obtain ⟨q1, q2⟩ := hks.key i' e2 he2
                   exact ⟨q1, by simp only [zk9, L2, std, yvl, zwh, q2, Bool.and_true, Bool.not_eq_true', decide_eq_false_iff_not]; exact fun q => hne (inj i' e2 he2 q)⟩
                 by_cases hij : i < j
                 · rw [if_pos hij] at hx2; simp only [if_pos hij]; exact fin i x2 hx2 (by omega)
                 · rw [if_neg hij] at hx2; simp only [if_neg hij]; exact fin (i + 1) x2 hx2 (by omega)
               · simp only [zk9, L2, std, yvl, zwh, Bool.and_eq_true, Bool.not_eq_true', decide_eq_false_iff_not] at hk'
                 obtain ⟨i, i1, i2⟩ := hks.all k' hk'.2
                 have hij : i ≠ j := by rintro rfl; rw [g2] at i2; exact hk'.1 i2.symm
                 have hsz : (es.eraseIdxIfInBounds j).size = es.size - 1 := by
                   unfold Array.eraseIdxIfInBounds
                   rw [dif_pos hlt]
                   simp
                 rw [hsz]
                 by_cases hlt' : i < j
                 · exact ⟨i, by omega, by simp only [if_pos hlt']; exact i2⟩
                 · exact ⟨i - 1, by omega, by simp only [if_neg (show ¬ i - 1 < j by omega)]; rw [show i - 1 + 1 = i by omega]; exact i2⟩
               · rw [hers] at hx2
                 by_cases hij : i < j
                 · rw [if_pos hij] at hx2; simp only [if_pos hij]; exact hr i x2 hx2
                 · rw [if_neg hij] at hx2; simp only [if_neg hij]; exact hr (i + 1) x2 hx2
           have hblt : b < w.heap.size := (Array.getElem?_eq_some_iff.1 hb).1
           have run : (execOp a.eval o).run P w = .ok (.value (.tuple #[])) { w with heap := w.heap.setIfInBounds b (.map es' clock) } := by
             unfold execOp
             rw [e]
             simp [resolve, invoke, builtin, hum, hrun]
           intro K Q hK
           unfold Oper.wp
           rw [run]
           have h1 := h.turn (ob' := .map (zhe T kt) (L2 std ytq (std has key) n) (zk9 std key has) val) (w' := { w with heap := w.heap.setIfInBounds b (.map es' clock) }) hμ hg (by simp) trivial hic rfl rfl rfl (by simp) (fun k' hk' => by simp [Ne.symm hk'])
             (fun hD => ⟨es', clock, kf', by simp [hblt], hn', hks', fun i x' hx' => (hr' i x' hx').mono hD (fun _ h => h) (fun _ _ h => h)⟩)
           exact hK _ _ ⟨_, _, h1.put hd (.tup _ _ rfl (fun i x v hx => by simp at hx))⟩
       · trivial
     · trivial
   · trivial
 · trivial
end
end Sy
end Go.Proofs.YtogpolfhcbgcbaaGreatDoor
namespace Go.Proofs.YtogpolfhcbgcbaaGreatDoor
namespace Sy
open Go Go.RowKit
set_option linter.unusedSimpArgs false
set_option linter.unusedVariables false
theorem zvv {h : Array Obj} {D : Nat -> Prop} {μ : Mu} {a : Act} {l : List Operand} {vals : List AV} (hv : Ops h D μ a l vals) : Ops h D μ a l (yjk vals) := by
 unfold yjk
 split
 · cases l with
   | nil => exact hv.elim
   | cons x l => exact ⟨hv.1.less, hv.2⟩
 · cases l with
   | nil => exact hv.elim
   | cons x l => exact ⟨hv.1.lessx, hv.2⟩
 · exact hv
theorem zuu {P : Program} {w : World} {a : Act} (isS : Bool) (len cap : Nat) {lo hi mx : Option Operand} {p q s : Option Int} (h1 : zey a lo p) (h2 : zey a hi q) (h3 : zey a mx s) (hm : mx.isSome = true -> hi.isSome = true)
   (l r k : Nat) (hl : (p.getD 0) = (l : Int)) (hr : (q.getD len) = (r : Int)) (hk : (s.getD cap) = (k : Int)) (hlr : l <= r) (hrc : r <= k) (hkc : k <= cap) :
   (Instr.sliceBounds isS len cap (lo.map a.eval) (hi.map a.eval) (mx.map a.eval)).run P w = .ok (l, r, k) w := by
 cases mx with
 | none =>
   cases s with
   | some _ => exact h3.elim
   | none =>
     obtain rfl : cap = k := by simp at hk; omega
     exact ze4 isS len cap h1 h2 l r hl hr hlr hrc
 | some z =>
   cases s with
   | none => exact h3.elim
   | some s =>
   cases hi with
   | none => simp at hm
   | some y =>
   cases q with
   | none => exact h2.elim
   | some q =>
   obtain ⟨k1, e1⟩ := h3
   obtain ⟨k2, e2⟩ := h2
   simp at hk hr
   subst hk; subst hr
   unfold Instr.sliceBounds
   cases lo with
   | none =>
     cases p with
     | some _ => exact h1.elim
     | none =>
       obtain rfl : l = 0 := by simp at hl; omega
       simp [e1, e2, Instr.sliceBound, asIntOf, hkc, hrc]
   | some x =>
     cases p with
     | none => exact h1.elim
     | some p =>
       obtain ⟨k3, e3⟩ := h1
       simp at hl
       subst hl
       simp [e1, e2, e3, Instr.sliceBound, asIntOf, hkc, hrc, hlr]
theorem yhj {h : Array Obj} {D : Nat -> Prop} {μ : Mu} {a : Act} {lo hi m : Option Operand} {vs : List AV} {p q s : Option Int} (e : yn7 vs lo.isSome hi.isSome m.isSome = some (p, q, s)) (hv : Ops h D μ a (lo.toList ++ (hi.toList ++ m.toList)) vs) :
   zey a lo p /\ zey a hi q /\ zey a m s /\ (m.isSome = true -> hi.isSome = true) := by
 cases lo <;> cases hi <;> cases m <;> simp only [yn7, Option.isSome] at e <;> (try split at e) <;> (try cases e) <;> (try (rename_i he; simp at he; done)) <;> (try contradiction)
 · exact ⟨trivial, trivial, trivial, fun h => by cases h⟩
 · exact ⟨trivial, ⟨_, hv.1.inv_int⟩, trivial, fun h => by cases h⟩
 · exact ⟨trivial, ⟨_, hv.1.inv_int⟩, ⟨_, hv.2.1.inv_int⟩, fun _ => rfl⟩
 · exact ⟨⟨_, hv.1.inv_int⟩, trivial, trivial, fun h => by cases h⟩
 · exact ⟨⟨_, hv.1.inv_int⟩, ⟨_, hv.2.1.inv_int⟩, trivial, fun h => by cases h⟩
 · exact ⟨⟨_, hv.1.inv_int⟩, ⟨_, hv.2.1.inv_int⟩, ⟨_, hv.2.2.1.inv_int⟩, fun _ => rfl⟩
theorem zkc {P : Program} (w : World) (t t' ty e : TypeId) (i : TypeInfo) (z : Value) (ht : P.underlying t = some (.slice e)) (ht' : P.underlying t' = some (.int .i64)) (hi : P.info? e = some i) (hz : i.zero = some z)
   (base : Option Addr) (sLen sCap : Nat) (m : Nat) (olds : List Value) (hs : 0 < i.size) (ho : ∀ w', w'.heap = w.heap -> (Builtin.firstCells i.size sLen (.slice base sLen sCap)).run P w' = .ok olds.toArray w')
   (hm : m <= 9223372036854775807) (hmb : m * i.bytes <= 140737488355328) (hg : sCap < sLen + m) (h63 : sLen + m <= 9223372036854775807) (hfit : Builtin.nextslicecap (sLen + m) sCap * i.bytes <= 281474976710656) :
   (Builtin.append_ #[t, t'] ty #[.slice base sLen sCap, .int .i64 (m : Nat)]).run P w =
     .ok (.slice (some ⟨w.heap.size, 0, none⟩) (sLen + m) (grownCap w (sLen + m) sCap e)) (w.drew.alloc (.cells (olds.toArray ++ Builtin.zeroCells z.cells m ++ Builtin.zeroCells z.cells (grownCap w (sLen + m) sCap e - (sLen + m))) e)) := by
 have hgt : ¬ (sLen + m <= sCap) := by omega
 have hw : IntKind.i64.wrap (m : Int) = m := by rw [IntKind.wrap_i64]; omega
 have h63' : ¬ (9223372036854775807 < ((sLen : Int) + (m : Int))) := by omega
 have h48' : ¬ (281474976710656 < Builtin.nextslicecap (sLen + m) sCap * i.bytes) := by omega
 have h48i : ¬ (281474976710656 < (m : Int) * (i.bytes : Int)) := by
   rw [<- Int.natCast_mul]
   omega
 have hneg : ¬ ((m : Int) < 0) := by omega
 have hfo := ho w.drew rfl
 have hz0 : m * i.size = 0 -> Builtin.zeroCells z.cells m = #[] := by
   intro h0
   have : m = 0 := by
     rcases Nat.mul_eq_zero.1 h0 with h | h
     · exact h
     · omega
   subst this
   simp [Builtin.zeroCells]
 by_cases h0 : m * i.size = 0
 · simp [Builtin.append_, run_underlying ht, run_underlying ht', sizeOf, typeInfo, zeroValue, hi, hz, asInt, asIntOf, hw, hgt, hneg, h63', h48', h48i, Question.forced, hfo, newRow, grownCap, h0, hz0 h0]
 · simp [Builtin.append_, run_underlying ht, run_underlying ht', sizeOf, typeInfo, zeroValue, hi, hz, asInt, asIntOf, hw, hgt, hneg, h63', h48', h48i, Question.forced, hfo, newRow, grownCap, h0]
theorem zlc {P : Program} (w : World) (t t' ty e : TypeId) (i : TypeInfo) (z : Value) (ht : P.underlying t = some (.slice e)) (ht' : P.underlying t' = some (.int .i64)) (hi : P.info? e = some i) (hz : i.zero = some z)
   (base : Option Addr) (sLen sCap : Nat) (m : Nat) (hs : 0 < i.size) (hm : m <= 9223372036854775807) (hmb : m * i.bytes <= 140737488355328) (hg : sLen + m <= sCap) {w' : World}
   (hst : ∀ ad, base = some ad -> (storeCells (ad.add (sLen * i.size)) (Builtin.zeroCells z.cells m).toList).run P w = .ok () w') (hb : base = none -> w' = w) :
   (Builtin.append_ #[t, t'] ty #[.slice base sLen sCap, .int .i64 (m : Nat)]).run P w = .ok (.slice base (sLen + m) sCap) w' := by
 have hw : IntKind.i64.wrap (m : Int) = m := by rw [IntKind.wrap_i64]; omega
 have h48i : ¬ (281474976710656 < (m : Int) * (i.bytes : Int)) := by
   rw [<- Int.natCast_mul]
   omega
 have hneg : ¬ ((m : Int) < 0) := by omega
 have hz0 : m * i.size = 0 -> Builtin.zeroCells z.cells m = #[] := by
   intro h0
   have : m = 0 := by
     rcases Nat.mul_eq_zero.1 h0 with h | h
     · exact h
     · omega
   subst this
   simp [Builtin.zeroCells]
 cases base with
 | none =>
   obtain rfl := hb rfl
   by_cases h0 : m * i.size = 0 <;> simp [Builtin.append_, run_underlying ht, run_underlying ht', sizeOf, typeInfo, zeroValue, hi, hz, asInt, asIntOf, hw, hneg, h48i, hg, h0]
 | some ad =>
   have hst := hst ad rfl
   by_cases h0 : m * i.size = 0
   · rw [hz0 h0] at hst
     simp [Builtin.append_, run_underlying ht, run_underlying ht', sizeOf, typeInfo, zeroValue, hi, hz, asInt, asIntOf, hw, hneg, h48i, hg, h0, hst]
   · simp [Builtin.append_, run_underlying ht, run_underlying ht', sizeOf, typeInfo, zeroValue, hi, hz, asInt, asIntOf, hw, hneg, h48i, hg, h0, hst]
def L4i (i j k : Int) (n : Nat) : Prop := 0 <= i /\ i <= j /\ j <= k /\ k <= n
theorem yeg {i j k : Int} {n : Nat} (h : yrx i j k (za7 n) = true) : L4i i j k n := by
 simp only [yrx, za7, Bool.and_eq_true, decide_eq_true_eq] at h
 exact ⟨h.1.1.1, h.1.1.2, h.1.2, of_decide_eq_true h.2⟩
section
variable {P : Program} {T : TT} {base : Nat} {M : Two} {W : World} {nt : Nat} {f : Nat -> Option AV} {g : Nat -> Option Ob} {c : Nat -> Bool} {a : Act} {w : World} {D : Nat -> Prop} {μ : Mu} {o : Oper}
theorem zn4 (size c : Nat) (a : Option Addr) (l l' cap cap' : Nat) : Builtin.firstCells size c (.slice a l cap) = Builtin.firstCells size c (.slice a l' cap') := by
 cases a <;> rfl
theorem ynd (h : Sim base M W nt f g c a w D μ) {esz m : Nat} {ob : Nat -> Option Ob} (hob : ∀ id z, ob id = some z -> g id = some z) {x : AV} {src : Nat -> Nat -> AV} {u : Value} (e : zcl std esz ob x = some (m, src)) (hx : yjt x = true) (r : R w.heap D μ x u) (k : Nat) (hk : k <= m) :
   ∃ news : List Value, news.length = k * esz /\ (∀ w', w'.heap = w.heap -> (Builtin.firstCells esz k u).run P w' = .ok news.toArray w') /\ (Builtin.lenOf u).run P w = .ok m w /\
     ∀ i j, i < k -> j < esz -> ∃ v, news[i * esz + j]? = some v /\ one v /\ R w.heap D zav (src i j) v := by
 obtain ⟨_, _, _, hlen, _⟩ := zga (P := P) h hob e r
 have key : ∀ (y : AV) (ad : Option Addr) (l cap : Nat), u = .slice ad l cap -> zcl std esz ob y = some (k, src) -> R w.heap D μ y (.slice ad k cap) ->
     ∃ news : List Value, news.length = k * esz /\ (∀ w', w'.heap = w.heap -> (Builtin.firstCells esz k u).run P w' = .ok news.toArray w') /\ (Builtin.lenOf u).run P w = .ok m w /\
     ∀ i j, i < k -> j < esz -> ∃ v, news[i * esz + j]? = some v /\ one v /\ R w.heap D zav (src i j) v := by
   rintro y ad l cap rfl ey ry
   obtain ⟨news, n1, n2, n3, n4⟩ := zga (P := P) h hob ey ry
   exact ⟨news, n1, fun w' hw => by rw [zn4 esz k ad l k cap cap]; exact n2 w' hw, hlen, n4⟩
 have lists : ∀ sz n get, zcl std esz ob (.lst sz n get) = some (m, src) -> R w.heap D μ (.lst sz n get) u -> ∃ news : List Value, news.length = k * esz /\ (∀ w', w'.heap = w.heap -> (Builtin.firstCells esz k u).run P w' = .ok news.toArray w') /\ (Builtin.lenOf u).run P w = .ok m w /\
     ∀ i j, i < k -> j < esz -> ∃ v, news[i * esz + j]? = some v /\ one v /\ R w.heap D zav (src i j) v := by
   intro sz n get e9 r
   simp only [zcl] at e9
   split at e9
   · rename_i hsz
     obtain rfl := za4 hsz
     cases e9
     cases r with
     | lst0 _ _ ad cap hn =>
       obtain rfl : k = 0 := by omega
       exact key (.lst sz 0 src) ad 0 cap rfl (by simp [zcl, za6]) (.lst0 _ _ ad cap hn)
     | lst _ _ _ b o' cap vs hD hc hv h1 hr =>
       exact key (.lst sz k src) _ m cap rfl (by simp [zcl, za6]) (.lst _ _ _ b o' cap vs hD (by omega) (fun i j hi hj => hv i j (by omega) hj) (fun i j hi hj => h1 i j (by omega) hj) (fun i j hi hj => hr i j (by omega) hj))
   · cases e9
 have rows : ∀ id sz off n, zcl std esz ob (.sl id sz off n) = some (m, src) -> R w.heap D μ (.sl id sz off n) u -> ∃ news : List Value, news.length = k * esz /\ (∀ w', w'.heap = w.heap -> (Builtin.firstCells esz k u).run P w' = .ok news.toArray w') /\ (Builtin.lenOf u).run P w = .ok m w /\
     ∀ i j, i < k -> j < esz -> ∃ v, news[i * esz + j]? = some v /\ one v /\ R w.heap D zav (src i j) v := by
   intro id sz off n e9 r
   simp only [zcl] at e9
   split at e9
   · rename_i hsz
     obtain rfl := za4 hsz
     split at e9
     · rename_i ty sz' n' get hg
       split at e9
       · rename_i hsz'
         obtain rfl := za4 hsz'
         cases e9
         cases r with
         | slv _ _ ad hm =>
           obtain rfl : k = 0 := by omega
           exact key (.sl id sz 0 0) ad 0 0 rfl (by simp [zcl, za6, hg]) (.slv _ _ ad hm)
         | sl0 _ _ _ b z mm o hm ho =>
           obtain rfl : k = 0 := by omega
           exact key (.sl id sz off 0) _ 0 0 rfl (by simp [zcl, za6, hg]) (.sl0 _ _ _ b z mm o hm ho)
         | sl _ _ _ _ b z mm cap hm hn hz ho =>
           exact key (.sl id sz off k) _ m cap rfl (by simp [zcl, za6, hg]) (.sl _ _ _ _ b z mm cap hm (by omega) hz (by omega))
       · cases e9
     · cases e9
   · cases e9
 have none0 : k = 0 -> ∀ ad l cap, u = .slice ad l cap -> (ad = none -> cap = 0) -> ∃ news : List Value, news.length = k * esz /\ (∀ w', w'.heap = w.heap -> (Builtin.firstCells esz k u).run P w' = .ok news.toArray w') /\ (Builtin.lenOf u).run P w = .ok m w /\
     ∀ i j, i < k -> j < esz -> ∃ v, news[i * esz + j]? = some v /\ one v /\ R w.heap D zav (src i j) v := by
   rintro rfl ad l cap hu hc
   exact key (.lst esz 0 src) ad l cap hu (by simp [zcl, za6]) (.lst0 _ _ ad cap hc)
 cases x with
 | lst sz n get => exact lists sz n get e r
 | lstx sz n get => exact lists sz n get e r.lessx
 | sl id sz off n => exact rows id sz off n e r
 | slc id sz off n cap => exact rows id sz off n e r.less
 | nils =>
   cases e
   cases r
   exact none0 (by omega) _ _ _ rfl (fun _ => rfl)
 | emp =>
   cases e
   cases r
   exact none0 (by omega) _ _ _ rfl (fun h => by cases h)
 | emz =>
   cases e
   cases r
   exact none0 (by omega) _ _ _ rfl (fun h => by cases h)
 | str l => cases hx
 | _ => simp [zcl] at e
theorem Sim.seg (h : Sim base M W nt f g c a w D μ) {id b z k ty sz : Nat} {get src : Nat -> Nat -> AV} (hμ : μ id = some (some (b, z, k))) (hg : g id = some (.row ty sz k get)) (hc : c id = false) (hsz : 0 < sz)
   {off m : Nat} (hoff : off + m <= k) {news : List Value} (n1 : news.length = m * sz) (n4 : ∀ i j, i < m -> j < sz -> ∃ v, news[i * sz + j]? = some v /\ one v /\ R w.heap D zav (src i j) v) :
   ∃ w', (storeCells ⟨b, off * sz, none⟩ news).run P w = .ok () w' /\
     Sim base M W nt f (zb5 g [(id, .row ty sz k (fun i j => L3 std zqd (L3 std zdk off m i) (src (L2 std Nat.sub i off) j) (get i j)))]) c a w' D μ := by
 obtain ⟨_, C, t0, fr, hh, hcs, hf, hle, hrow⟩ := h.obs id _ _ hg hμ
 have hmz : off * sz + m * sz <= C.size := by
   have h1 : (off + m) * sz <= k * sz := Nat.mul_le_mul_right _ hoff
   rw [Nat.add_mul] at h1
   omega
 have hnews : ∀ v ∈ news, one v := by
   intro v hv
   obtain ⟨q, hq⟩ := List.getElem?_of_mem hv
   have hql : q < m * sz := by rw [<- n1]; exact (List.getElem?_eq_some_iff.1 hq).1
   obtain ⟨v', v1, v2, v3⟩ := n4 (q / sz) (q % sz) (Nat.div_lt_of_lt_mul (by rw [Nat.mul_comm]; exact hql)) (Nat.mod_lt _ (by omega))
   rw [show q / sz * sz + q % sz = q by rw [Nat.mul_comm]; exact Nat.div_add_mod q sz, hq] at v1
   cases v1
   exact v2
 have hst := zdz P b (off * sz) t0 fr news 0 C w hh (by rw [hcs]; exact hf.1) (by rw [n1]; omega) hnews
 simp only [Nat.add_zero] at hst
 refine ⟨_, hst, h.write (C' := zb9 C (off * sz) news) hμ hg (by simp) (by simp) hc hh (fun hD => ?_)⟩
 refine ⟨rfl, _, t0, fr, setRow_heap w b C _ t0 fr hh, by rw [zb1, hcs], ⟨hf.1, hf.2.1, zda hf.2.2.1 hnews, hf.2.2.2⟩, hle, fun i j hi' hj => ?_⟩
 obtain ⟨y0, y1, y2, y3⟩ := hrow i j hi' hj
 have hin : i * sz + j < C.size := (Array.getElem?_eq_some_iff.1 y1).1
 rw [zb6 _ _ _ _ hin]
 by_cases hseg : off <= i /\ i < off + m
 · have hB : L3 std zdk off m i = true := by
     show (zbx off i && zbk i (off + m)) = true
     rw [Bool.and_eq_true, zcn, zed]
     exact hseg
   obtain ⟨v, v1, v2, v3⟩ := n4 (i - off) j (by omega) hj
   have hi1 : i * sz = off * sz + (i - off) * sz := by rw [<- Nat.add_mul]; congr 1; omega
   have hlt := (List.getElem?_eq_some_iff.1 v1).1
   refine ⟨v, ?_, v2, ?_⟩
   · rw [if_pos ⟨by omega, by omega⟩, show i * sz + j - off * sz = (i - off) * sz + j by omega]
     exact v1
   · show R _ D zav (L3 std zqd (L3 std zdk off m i) (src (L2 std Nat.sub i off) j) (get i j)) v
     rw [hB]
     exact v3.mono hD (fun _ h => h) (fun _ _ h => h)
 · have hB : L3 std zdk off m i = false := by
     show (zbx off i && zbk i (off + m)) = false
     cases hq : (zbx off i && zbk i (off + m)) with
     | false => rfl
     | true =>
       rw [Bool.and_eq_true, zcn, zed] at hq
       exact absurd hq hseg
   refine ⟨y0, ?_, y2, ?_⟩
   · rw [if_neg]
     · exact y1
     · rintro ⟨p1, p2⟩
       rw [n1] at p2
       apply hseg
       constructor
       · apply Nat.le_of_not_lt
         intro hlt
         have h3 : (i + 1) * sz <= off * sz := Nat.mul_le_mul_right _ hlt
         rw [Nat.add_mul] at h3
         omega
       · apply Nat.lt_of_not_le
         intro hge
         have h3 : (off + m) * sz <= i * sz := Nat.mul_le_mul_right _ hge
         rw [Nat.add_mul] at h3
         omega
   · show R _ D zav (L3 std zqd (L3 std zdk off m i) (src (L2 std Nat.sub i off) j) (get i j)) y0
     rw [hB]
     exact y3.mono hD (fun _ h => h) (fun _ _ h => h)
variable (h : Sim base M W nt f g c a w D μ) (hd : ∀ d, o.dst = some d -> d < nt)
include h hd
theorem yi1 (hT : zbw P T) {x : Operand} {t : Nat} {r : List Nat} {ts : Array TypeId} (hts : ts.toList = t :: r) (e : o.op = .call { callee := .builtin .cap, args := #[x], argTypes := ts }) {vals : List AV}
   (hv : Ops w.heap D μ a [x] vals) : zc7 P base M W nt f g c o a w (cCap T std t vals) := by
 match vals, hv with
 | [v], ⟨hv, _⟩ =>
   have h0 : ts[0]? = some t := by rw [<- Array.getElem?_toList, hts]; rfl
   unfold cCap
   split
   · rename_i id sz off n cap he
     simp only [List.cons.injEq, and_true] at he
     subst he
     split
     · rename_i hi
       have ok := (hT _ _ hi).k.1
       refine za0 h hd (u := .int .i64 (cap : Nat)) ?_ (.int _ _)
       unfold execOp
       rw [e]
       obtain ⟨ad, hu⟩ : ∃ ad, a.eval x = .slice ad n cap := by
         generalize a.eval x = u at hv
         cases hv <;> exact ⟨_, rfl⟩
       simp [resolve, invoke, builtin, Builtin.cap_, h0, run_underlying ok, goInt, hu]
     · trivial
   · trivial
theorem zy9 (hT : zbw P T) {t t' : Nat} {x y : Operand} {ts : Array TypeId} (hts : ts.toList = [t, t']) (e : o.op = .call { callee := .builtin .copy, args := #[x, y], argTypes := ts }) {vals : List AV} (hv : Ops w.heap D μ a [x, y] vals)
   {ob : Nat -> Option Ob} (hob : ∀ id z, ob id = some z -> g id = some z) {ice : Nat -> Bool} (hice : ∀ id, ice id = false -> c id = false) :
   zc7 P base M W nt f g c o a w (zs7 T std t t' ob ice vals) := by
 obtain rfl : ts = #[t, t'] := by apply Array.ext'; simpa using hts
 unfold zs7
 split
 · rename_i id sz off n cap xv
   obtain ⟨hx, hy, _⟩ := hv
   split
   · rename_i sz0 ag ze e' esz eb eqf p1 p2 p3 hi
     obtain ⟨ok1, ok2⟩ := (hT t _ hi).k
     obtain ⟨ei', hei', hes⟩ := Option.map_eq_some_iff.1 ok2
     simp only [Prod.mk.injEq] at hes
     obtain ⟨hes1, hes2⟩ := hes
     subst hes1; subst hes2
     split
     · rename_i m src hsrc
       have c0 : yjt xv = true := by cases hx : yjt xv <;> simp_all
       have c1 : zec T t' = true := by cases hx : zec T t' <;> simp_all
       have c2 : zbx 1 ei'.size = true := by cases hx : zbx 1 ei'.size <;> simp_all
       have c3 : (T.find e').isSome = true := by cases hx : (T.find e').isSome <;> simp_all
       rw [c0, c1, c2, c3] at hsrc
       simp only [cond_true] at hsrc
       split
       · rename_i ty sz' k get hsz hic hg
         obtain rfl := za4 hsz
         have hg := hob _ _ hg
         have hic := hice _ hic
         split
         · rename_i hsz'
           obtain rfl := za4 hsz'
           intro hb
           have hb' : 0 < n := by
             have hb : zbk 0 n = true := hb
             rw [zcn] at hb
             exact hb
           show Adv P base M W nt f g c o a w (.int .i64 (za7 (Nat.min m n))) [(id, .row ty ei'.size k (fun i j => L3 std zqd (L3 std zdk off (Nat.min m n) i) (src (L2 std Nat.sub i off) j) (get i j)))] []
           obtain ⟨news, n1, n2, n3, n4⟩ := ynd (P := P) h hob hsrc c0 hy (Nat.min m n) (Nat.min_le_left _ _)
           have hmn : Nat.min m n <= n := Nat.min_le_right _ _
           have run : ∀ u w', (Builtin.copy_ #[t, t'] o.type #[a.eval x, a.eval y]).run P w = .ok u w' -> (execOp a.eval o).run P w = .ok (.value u) w' := by
             intro u w' hu
             unfold execOp
             rw [e]
             simp [resolve, invoke, builtin, hu]
           generalize a.eval x = u at hx run
           cases hx with
           | slcv => omega
           | slc0 => omega
           | slc _ _ _ _ _ b z mm hμ hn hz ho =>
             have hm := (h.obs id _ _ hg hμ).1
             subst hm
             obtain ⟨w', hst, hsim⟩ := h.seg (P := P) hμ hg hic (zbh c2) (off := off) (m := Nat.min m n) (by omega) n1 n4
             have hso : (sizeOf e').run P w = .ok ei'.size w := by simp [sizeOf, typeInfo, program, Sem.run, hei']
             have hfc := n2 w rfl
             have hcm : Nat.min n m = Nat.min m n := Nat.min_comm n m
             have hrun : (Builtin.copy_ #[t, t'] o.type #[.slice (some ⟨b, off * ei'.size, none⟩) n cap, a.eval y]).run P w = .ok (goInt (Nat.min m n)) w' := by
               simp [Builtin.copy_, run_underlying ok1, n3, hcm, hso, hfc, hst]
             intro K Q hK
             unfold Oper.wp
             rw [run _ _ hrun]
             exact hK _ _ ⟨_, _, hsim.put hd (.int _ _)⟩
         · trivial
       · trivial
     · trivial
   · trivial
 · trivial
theorem zsu (hT : zbw P T) {t : TypeId} {x : Operand} {lo hi m : Option Operand} (e : o.op = .slice t x lo hi m) {vals : List AV} (hv : Ops w.heap D μ a (x :: (lo.toList ++ (hi.toList ++ m.toList))) vals) :
   zc7 P base M W nt f g c o a w (zuq T std t lo.isSome hi.isSome m.isSome vals) := by
 match vals, hv with
 | v :: vs, ⟨hx, hv⟩ =>
   unfold zuq
   simp only
   split
   · rename_i sz0 ag ze e' esz eb eqf p1 p2 p3 hi0
     obtain ⟨ok1, ok2⟩ := (hT t _ hi0).k
     obtain ⟨ei', hei', hes⟩ := Option.map_eq_some_iff.1 ok2
     simp only [Prod.mk.injEq] at hes
     obtain ⟨hes1, hes2⟩ := hes
     subst hes1; subst hes2
     have hso : (sizeOf e').run P w = .ok ei'.size w := by simp [sizeOf, typeInfo, program, Sem.run, hei']
     split
     · rename_i p q s h3
       obtain ⟨b1, b2, b3, b4⟩ := yhj h3 hv
       have run : ∀ u, (Instr.sliceAt t (a.eval x) (lo.map a.eval) (hi.map a.eval) (m.map a.eval)).run P w = .ok u w -> (execOp a.eval o).run P w = .ok (.value u) w := by
         intro u hu; unfold execOp; rw [e]; simp [hu]
       generalize a.eval x = u at hx run
       have go : ∀ (ad : Option Addr) (n cap l r k : Nat), u = .slice ad n cap -> p.getD 0 = (l : Int) -> q.getD n = (r : Int) -> s.getD cap = (k : Int) -> l <= r -> r <= k -> k <= cap ->
           (Instr.sliceAt t u (lo.map a.eval) (hi.map a.eval) (m.map a.eval)).run P w = .ok (.slice (if k = l then ad else ad.map (·.add (l * ei'.size))) (r - l) (k - l)) w := by
         rintro ad n cap l r k rfl g1 g2 g3 g4 g5 g6
         have hbr := zuu (P := P) (w := w) true n cap b1 b2 b3 b4 l r k g1 g2 g3 g4 g5 g6
         simp [Instr.sliceAt, Instr.slice, run_underlying ok1, hbr, hso]
       have nums : ∀ (n cap top : Nat), L4i (gei std p 0) (gei std q n) (gei std s cap) top -> ∃ l r k : Nat, p.getD 0 = (l : Int) /\ q.getD n = (r : Int) /\ s.getD cap = (k : Int) /\ l <= r /\ r <= k /\ k <= top /\ geo std p 0 = l /\ geo std q n = r /\ geo std s cap = k := by
         rintro n cap top ⟨q1, q2, q3, q4⟩
         have e0 : ∀ (p : Option Int) (n : Nat), gei std p n = p.getD n := fun p n => by cases p <;> rfl
         have e1 : ∀ (p : Option Int) (n : Nat), geo std p n = (p.getD n).toNat := fun p n => by cases p <;> simp [geo, std]
         simp only [e0] at q1 q2 q3 q4
         refine ⟨(p.getD 0).toNat, (q.getD n).toNat, (s.getD cap).toNat, ?_, ?_, ?_, ?_, ?_, ?_, e1 _ _, e1 _ _, e1 _ _⟩ <;> simp only [Int.natCast_zero, Int.ofNat_zero] at * <;> omega
       split
       · rename_i id sz off n cap
         split
         · rename_i hsz
           obtain rfl := za4 hsz
           intro hb
           obtain ⟨l, r, k, g1, g2, g3, g4, g5, g6, k1, k2, k3⟩ := nums n cap cap (yeg hb)
           have hgo := fun ad h => go ad n cap l r k h g1 g2 g3 g4 g5 g6
           have hoff : ∀ (p : Option Int) (off : Nat), yh3 std off p = off + geo std p 0 := fun p off => by cases p <;> simp [yh3, geo, L2, std]
           have hsub : ∀ (p : Option Int) (x : Nat), zsk std x p = x - geo std p 0 := fun p off => by cases p <;> simp [zsk, geo, L2, std]
           rw [show yh3 (fun {α β} => std) off p = off + geo std p 0 from hoff p off, show zsk (fun {α β} => std) (geo std q n) p = geo std q n - geo std p 0 from hsub p _, show zsk (fun {α β} => std) (geo std s cap) p = geo std s cap - geo std p 0 from hsub p _, show geo (fun {α β} => std) p 0 = l from k1, show geo (fun {α β} => std) q n = r from k2, show geo (fun {α β} => std) s cap = k from k3]
           show Adv P base M W nt f g c o a w (.slc id ei'.size (off + l) (r - l) (k - l)) [] []
           cases hx with
           | slcv _ _ ad hμ =>
             have h1 := hgo ad rfl
             obtain rfl : l = 0 := by omega
             obtain rfl : r = 0 := by omega
             obtain rfl : k = 0 := by omega
             exact za0 h hd (run _ h1) (.slcv _ _ _ hμ)
           | slc0 _ _ _ b z mm o' hμ ho =>
             have h1 := hgo _ rfl
             obtain rfl : l = 0 := by omega
             obtain rfl : r = 0 := by omega
             obtain rfl : k = 0 := by omega
             exact za0 h hd (run _ h1) (.slc0 _ _ _ b z mm _ hμ ho)
           | slc _ _ _ _ _ b z mm hμ hn hz ho =>
             have h1 := hgo _ rfl
             by_cases hcl : k = l
             · subst hcl
               rw [if_pos rfl] at h1
               have h0 : r - k = 0 := by omega
               rw [h0, Nat.sub_self] at h1
               rw [h0, Nat.sub_self]
               exact za0 h hd (run _ h1) (.slc0 _ _ _ b z mm _ hμ (by omega))
             · rw [if_neg hcl] at h1
               simp only [Option.map_some, zbe] at h1
               rw [<- Nat.add_mul] at h1
               refine za0 h hd (run _ h1) (.slc _ _ _ _ _ b z mm hμ (by omega) (Nat.le_trans (Nat.mul_le_mul_right _ (by omega)) hz) (by omega))
         · trivial
       · rename_i id sz off n
         split
         · rename_i x0 hsz
           obtain rfl := za4 hsz
           intro hb
           obtain ⟨l, r, k, g1, g2, g3, g4, g5, g6, k1, k2, k3⟩ := nums n n n (yeg hb)
           have hoff : ∀ (p : Option Int) (off : Nat), yh3 std off p = off + geo std p 0 := fun p off => by cases p <;> simp [yh3, geo, L2, std]
           have hsub : ∀ (p : Option Int) (x : Nat), zsk std x p = x - geo std p 0 := fun p off => by cases p <;> simp [zsk, geo, L2, std]
           rw [show yh3 (fun {α β} => std) off p = off + geo std p 0 from hoff p off, show zsk (fun {α β} => std) (geo std q n) p = geo std q n - geo std p 0 from hsub p _, show zsk (fun {α β} => std) (geo std (some x0) n) p = geo std (some x0) n - geo std p 0 from hsub p _, show geo (fun {α β} => std) p 0 = l from k1, show geo (fun {α β} => std) q n = r from k2, show geo (fun {α β} => std) (some x0) n = k from k3]
           show Adv P base M W nt f g c o a w (.slc id ei'.size (off + l) (r - l) (k - l)) [] []
           have g3' : ∀ cap : Nat, (some x0).getD (cap : Int) = (k : Int) := fun _ => g3
           cases hx with
           | slv _ _ ad hμ =>
             have h1 := go ad 0 0 l r k rfl g1 g2 (g3' 0) g4 g5 g6
             obtain rfl : l = 0 := by omega
             obtain rfl : r = 0 := by omega
             obtain rfl : k = 0 := by omega
             exact za0 h hd (run _ h1) (.slcv _ _ _ hμ)
           | sl0 _ _ _ b z mm o' hμ ho =>
             have h1 := go _ 0 0 l r k rfl g1 g2 (g3' 0) g4 g5 g6
             obtain rfl : l = 0 := by omega
             obtain rfl : r = 0 := by omega
             obtain rfl : k = 0 := by omega
             exact za0 h hd (run _ h1) (.slc0 _ _ _ b z mm _ hμ ho)
           | sl _ _ _ _ b z mm cap hμ hn hz ho =>
             have h1 := go _ n cap l r k rfl g1 g2 (g3' cap) g4 g5 (by omega)
             by_cases hcl : k = l
             · subst hcl
               rw [if_pos rfl] at h1
               have h0 : r - k = 0 := by omega
               rw [h0, Nat.sub_self] at h1
               rw [h0, Nat.sub_self]
               exact za0 h hd (run _ h1) (.slc0 _ _ _ b z mm _ hμ (by omega))
             · rw [if_neg hcl] at h1
               simp only [Option.map_some, zbe] at h1
               rw [<- Nat.add_mul] at h1
               refine za0 h hd (run _ h1) (.slc _ _ _ _ _ b z mm hμ (by omega) (Nat.le_trans (Nat.mul_le_mul_right _ (by omega)) hz) (by omega))
         · trivial
       · rename_i sz n get
         split
         · rename_i x0 hsz
           obtain rfl := za4 hsz
           intro hb
           have hb : (yrx (gei std p 0) (gei std q n) x0 (za7 n) && ieq (gei std q n) x0) = true := hb
           rw [Bool.and_eq_true] at hb
           obtain ⟨hb, heq⟩ := hb
           have heq : gei std q n = x0 := eq_of_beq heq
           obtain ⟨l, r, k, g1, g2, g3, g4, g5, g6, k1, k2, k3⟩ := nums n n n (yeg hb)
           have hoff : ∀ (p : Option Int) (off : Nat), yh3 std off p = off + geo std p 0 := fun p off => by cases p <;> simp [yh3, geo, L2, std]
           have hsub : ∀ (p : Option Int) (x : Nat), zsk std x p = x - geo std p 0 := fun p off => by cases p <;> simp [zsk, geo, L2, std]
           rw [show zsk (fun {α β} => std) (geo std q n) p = geo std q n - geo std p 0 from hsub p _, show geo (fun {α β} => std) p 0 = l from k1, show geo (fun {α β} => std) q n = r from k2]
           have g3' : ∀ cap : Nat, (some x0).getD (cap : Int) = (k : Int) := fun _ => g3
           have hrk : r = k := by
             have e0 : gei std q n = q.getD n := by cases q <;> rfl
             rw [e0, g2] at heq
             have g3 : x0 = (k : Int) := g3
             omega
           subst hrk
           have hcut : ∀ i j, yh9 std get p i j = get (l + i) j := by
             intro i j
             cases p with
             | none =>
               have : l = 0 := by rw [<- k1]; rfl
               subst this
               simp [yh9]
             | some a =>
               have : l = a.toNat := by rw [<- k1]; rfl
               subst this
               rfl
           cases hx with
           | lst0 _ _ ad cap hn =>
             have h1 := go ad 0 cap l r r rfl g1 g2 (g3' cap) g4 g5 (by omega)
             obtain rfl : l = 0 := by omega
             obtain rfl : r = 0 := by omega
             exact za0 h hd (run _ h1) (.lstx _ _ _ _ (.lst0 _ _ _ _ (fun _ => rfl)))
           | lst _ _ _ b o' cap vs hD hc hv hone hr =>
             have h1 := go _ n cap l r r rfl g1 g2 (g3' cap) g4 g5 (by omega)
             refine za0 h hd (run _ h1) (.lstx _ _ _ _ ?_)
             by_cases hcl : r = l
             · subst hcl
               rw [if_pos rfl, Nat.sub_self]
               exact .lst0 _ _ _ _ (fun _ => rfl)
             · rw [if_neg hcl]
               simp only [Option.map_some, zbe]
               refine .lst _ _ _ b _ _ (fun i j => vs (l + i) j) hD (Nat.le_refl _) (fun i j hi hj => ?_) (fun i j hi hj => hone _ _ (by omega) hj) (fun i j hi hj => ?_)
               · have := hv (l + i) j (by omega) hj
                 rw [Nat.add_mul] at this
                 rw [show o' + l * ei'.size + i * ei'.size + j = o' + (l * ei'.size + i * ei'.size) + j by omega]
                 exact this
               · rw [show yh9 (fun {α β} => std) get p i j = get (l + i) j from hcut i j]
                 exact hr _ _ (by omega) hj
         · trivial
       · trivial
     · trivial
   · trivial
omit hd in
theorem zv8 (hT : zbw P T) {t t' ty e : Nat} {i : TypeInfo} {ei : TI} (ht : P.underlying t = some (.slice e)) (hi : P.info? e = some i) (hei : T.find e = some ei) (hs : 0 < i.size) {ob : Nat -> Option Ob} (hob : ∀ id z, ob id = some z -> g id = some z)
   {x : AV} {u : Value} {q : Bool} {m : Nat} {src : Nat -> Nat -> AV} (es : ywr T std i.size i.bytes ei t' ob x = some (q, m, src)) (hq : q = true) (hx : R w.heap D μ x u) :
   ∃ news : List Value, news.length = m * i.size /\ (∀ a b, a < m -> b < i.size -> ∃ v, news[a * i.size + b]? = some v /\ one v /\ R w.heap D zav (src a b) v) /\
     (∀ base sLen sCap w', sLen + m <= sCap -> (∀ ad, base = some ad -> (storeCells (Addr.add ad (sLen * i.size)) news).run P w = .ok () w') -> (base = none -> w' = w) -> (Builtin.append_ #[t, t'] ty #[.slice base sLen sCap, u]).run P w = .ok (.slice base (sLen + m) sCap) w') /\
     (∀ base sLen sCap olds z, i.zero = some z -> (∀ w', w'.heap = w.heap -> (Builtin.firstCells i.size sLen (.slice base sLen sCap)).run P w' = .ok (List.toArray olds) w') -> sCap < sLen + m -> sLen + m <= 9223372036854775807 -> Builtin.nextslicecap (sLen + m) sCap * i.bytes <= 281474976710656 ->
       (Builtin.append_ #[t, t'] ty #[.slice base sLen sCap, u]).run P w = .ok (.slice (some ⟨w.heap.size, 0, none⟩) (sLen + m) (grownCap w (sLen + m) sCap e)) (w.drew.alloc (.cells (olds.toArray ++ news.toArray ++ Builtin.zeroCells z.cells (grownCap w (sLen + m) sCap e - (sLen + m))) e))) := by
 unfold ywr at es
 split at es
 · rename_i hni
   have hni := zlq hT hni
   split at es
   · rename_i m' g' hsrc
     cases es
     obtain ⟨news, n1, n2, n3, n4⟩ := zga (P := P) h hob hsrc hx
     refine ⟨news, n1, n4, fun base sLen sCap w' h1 h2 h3 => zds w t t' ty e i ht hni hi base sLen sCap u m news n2 n3 h1 h2 h3, fun base sLen sCap olds z hz ho h1 h2 h3 => zcf w t t' ty e i z ht hni hi hz base sLen sCap u m olds news ho n2 n3 h1 h2 h3⟩
   · cases es
 · split at es
   · rename_i n hk hfr
     have hk' : P.underlying t' = some (.int .i64) := by
       unfold yed at hk
       split at hk
       · rename_i hi'; exact (hT t' _ hi').k
       · cases hk
     cases es
     have hq : ((decide (0 <= n) && decide (n <= 9223372036854775807)) && zc0 i.bytes 0 n.toNat) = true := hq
     simp only [zc0, Bool.and_eq_true, decide_eq_true_eq, Nat.zero_add] at hq
     obtain ⟨⟨q1, q2⟩, q3, q4⟩ := hq
     obtain rfl := hx.inv_int
     obtain ⟨ii, z0, i1, i2, i3, i4, i5, i6⟩ := (hT e ei hei).info
     rw [hi] at i1
     cases i1
     have hzs : z0.cells.size = i.size := by rw [i5, <- i2]
     have hzl : ei.zero.length = i.size := by rw [(i6 w.heap D μ).1, hzs]
     have hn : n = ((n.toNat : Nat) : Int) := by omega
     refine ⟨(Builtin.zeroCells z0.cells n.toNat).toList, by simp [size_zeroCells, hzs, std], fun a' b' ha hb => ?_, fun base sLen sCap w' h1 h2 h3 => ?_, fun base sLen sCap olds z hz ho h1 h2 h3 => ?_⟩
     · refine ⟨_, zgw hzs ha hb, i4 _ _ (getD_some (by omega)), ?_⟩
       show R w.heap D zav (zbn .dead ei.zero b') _
       exact zdm ((i6 w.heap D μ).2 b' _ _ (zaz .dead ei.zero b' (by omega)) (getD_some (by omega))) (zd1 hfr _ _ (zaz _ _ _ (by omega)))
     · have := zlc (P := P) w t t' ty e i z0 ht hk' hi i3 base sLen sCap n.toNat hs (by omega) q3 h1 h2 h3
       rw [<- hn] at this
       exact this
     · have hz0 := hz
       rw [i3] at hz
       cases hz
       have := zkc (P := P) w t t' ty e i z0 ht hk' hi i3 base sLen sCap n.toNat olds hs ho (by omega) q3 h1 h2 h3
       rw [<- hn] at this
       rw [show (Builtin.zeroCells z0.cells n.toNat).toList.toArray = Builtin.zeroCells z0.cells n.toNat by simp]
       rw [i3] at hz0
       exact this
   · cases es
theorem zqr (hT : zbw P T) {x y : Operand} {ts : Array TypeId} {t t' : Nat} (hts : ts.toList = [t, t']) (e : o.op = .call { callee := .builtin .append, args := #[x, y], argTypes := ts }) {vals : List AV}
   (hv : Ops w.heap D μ a [x, y] vals) {ob : Nat -> Option Ob} (hob : ∀ id z, ob id = some z -> g id = some z) {ice : Nat -> Bool} (hice : ∀ id, ice id = false -> c id = false) :
   zc7 P base M W nt f g c o a w (zj4 T std o.dst t t' ob ice (zdi g o.op o.dst) vals) := by
 obtain rfl : ts = #[t, t'] := by apply Array.ext'; simpa using hts
 unfold zj4
 split
 · rename_i id sz off n cap xv
   obtain ⟨hs, hv, _⟩ := hv
   split
   · rename_i d hc
     obtain ⟨hn, hdst⟩ := zc5 hc
     have hnew : g d = none := by
       simp only [zdi, e, zcq, hdst] at hn
       cases hg : g d with
       | none => rfl
       | some _ => rw [hg] at hn; cases hn
     split
     · rename_i sz0 ag ze e' esz eb eqf p1 p2 p3 hi
       obtain ⟨ok1, ok2⟩ := (hT t _ hi).k
       obtain ⟨ei', hei', hes⟩ := Option.map_eq_some_iff.1 ok2
       simp only [Prod.mk.injEq] at hes
       obtain ⟨hes1, hes2⟩ := hes
       subst hes1; subst hes2
       split
       · rename_i ei hei
         split
         · rename_i q m src hsrc
           have c2 : zbx 1 ei'.size = true := by cases hx : zbx 1 ei'.size <;> simp_all
           rw [c2] at hsrc
           simp only [cond_true] at hsrc
           have hsp := zbh c2
           split
           · rename_i ty sz' k get hsz hic hg
             obtain rfl := za4 hsz
             have hg := hob _ _ hg
             have hic := hice _ hic
             split
             · rename_i hsz' hty
               obtain rfl := za4 hsz'
               obtain rfl : e' = ty := (za4 hty).symm
               have run : ∀ u w', (Builtin.append_ #[t, t'] o.type #[a.eval x, a.eval y]).run P w = .ok u w' -> (execOp a.eval o).run P w = .ok (.value u) w' := by
                 intro u w' hu
                 unfold execOp
                 rw [e]
                 simp [resolve, invoke, builtin, hu]
               obtain ⟨ii, z0, i1, i2, i3, i4, i5, i6⟩ := (hT e' ei hei).info
               rw [hei'] at i1
               cases i1
               have hzs : z0.cells.size = ei'.size := by rw [i5, <- i2]
               refine ⟨fun hb => ?_, fun hb hr => ?_⟩
               · have hb : (q && zbx (n + m) cap) = true := hb
                 rw [Bool.and_eq_true, zed] at hb
                 obtain ⟨news, n1, n4, nin, nnew⟩ := zv8 (P := P) (ty := o.type) h hT ok1 hei' hei hsp hob hsrc hb.1 hv
                 show Adv P base M W nt f g c o a w (.slc id ei'.size off (n + m) cap) [(id, .row e' ei'.size k (fun i j => L3 std zqd (L3 std zdk (off + n) m i) (src (L2 std Nat.sub i (off + n)) j) (get i j)))] []
                 have same : m = 0 -> ∀ ad, a.eval x = .slice ad 0 0 -> n = 0 -> cap = 0 -> R w.heap D μ (.slc id ei'.size off 0 0) (a.eval x) -> Adv P base M W nt f g c o a w (.slc id ei'.size off (n + m) cap) [(id, .row e' ei'.size k (fun i j => L3 std zqd (L3 std zdk (off + n) m i) (src (L2 std Nat.sub i (off + n)) j) (get i j)))] [] := by
                   rintro rfl ad hu rfl rfl hr K Q hK
                   have hnil : news = [] := List.eq_nil_of_length_eq_zero (by rw [n1]; omega)
                   subst hnil
                   have hrun := nin ad 0 0 w (by omega) (fun ad _ => rfl) (fun _ => rfl)
                   rw [hu] at run hr
                   unfold Oper.wp
                   rw [run _ _ hrun]
                   have e1 : (fun i j => L3 std zqd (L3 std zdk (off + 0) 0 i) (src (L2 std Nat.sub i (off + 0)) j) (get i j)) = get := by
                     funext i j
                     have : L3 std zdk (off + 0) 0 i = false := by
                       show (zbx (off + 0) i && zbk i (off + 0 + 0)) = false
                       cases hq : (zbx (off + 0) i && zbk i (off + 0 + 0)) with
                       | false => rfl
                       | true =>
                         rw [Bool.and_eq_true, zcn, zed] at hq
                         omega
                     rw [this]; rfl
                   rw [e1] at hK
                   have e2 : zb5 g [(id, .row e' ei'.size k get)] = g := by
                     funext q
                     by_cases hq : q = id
                     · subst hq; simp [zb5, za3, za6, hg]
                     · simp [zb5, za3, zan (fun x => hq x.symm : ¬ id = q)]
                   rw [e2] at hK
                   exact hK _ _ ⟨_, _, h.put hd hr⟩
                 generalize hu : a.eval x = u at hs
                 cases hs with
                 | slcv _ _ ad hμ => exact same (by omega) ad hu rfl rfl (by rw [hu]; exact .slcv _ _ _ hμ)
                 | slc0 _ _ _ b z mm o' hμ ho => exact same (by omega) _ hu rfl rfl (by rw [hu]; exact .slc0 _ _ _ _ _ _ _ hμ ho)
                 | slc _ _ _ _ _ b z mm hμ hnc hz ho =>
                   have hm := (h.obs id _ _ hg hμ).1
                   subst hm
                   obtain ⟨w', hst, hsim⟩ := h.seg (P := P) hμ hg hic hsp (off := off + n) (m := m) (by omega) n1 n4
                   have hrun := nin (some ⟨b, off * ei'.size, none⟩) n cap w' hb.2 (fun ad had => by cases had; rw [zbe, <- Nat.add_mul]; exact hst) (fun hx => by cases hx)
                   rw [hu] at run
                   intro K Q hK
                   unfold Oper.wp
                   rw [run _ _ hrun]
                   exact hK _ _ ⟨_, _, hsim.put hd (.slc _ _ _ _ _ b z k hμ hb.2 hz ho)⟩
               · have hb : (q && zbx (n + m) cap) = false := hb
                 have hr : (q && zc0 ei'.bytes n m) = true := hr
                 simp only [zc0, Bool.and_eq_true, decide_eq_true_eq] at hr
                 obtain ⟨hq, hr1, hr2⟩ := hr
                 rw [hq, Bool.true_and] at hb
                 have hg0 : cap < n + m := by
                   apply Nat.lt_of_not_le
                   intro hle
                   have : zbx (n + m) cap = true := by rw [zed]; exact hle
                   rw [hb] at this; cases this
                 obtain ⟨news, n1, n4, nin, nnew⟩ := zv8 (P := P) (ty := o.type) h hT ok1 hei' hei hsp hob hsrc hq hv
                 show Adv P base M W nt f g c o a w (.sl d ei'.size 0 (n + m)) [(d, .row e' ei'.size (n + m) (fun i j => L3 std zqd (L2 std zbk i n) (get (L2 std Nat.add off i) j) (src (L2 std Nat.sub i n) j)))] []
                 obtain ⟨olds, o1, o2, o4⟩ : ∃ olds : List Value, olds.length = n * ei'.size /\ (∀ w', w'.heap = w.heap -> (Builtin.firstCells ei'.size n (a.eval x)).run P w' = .ok olds.toArray w') /\ ∀ i j, i < n -> j < ei'.size -> ∃ v, olds[i * ei'.size + j]? = some v /\ one v /\ R w.heap D zav (get (off + i) j) v := by
                   obtain ⟨olds, o1, o2, _, o4⟩ := zga (P := P) (esz := ei'.size) (m := n) (x := .slc id ei'.size off n cap) (src := fun i j => get (off + i) j) (ob := g) h (fun _ _ h => h) (by simp only [zcl, za6, hg]; rfl) hs
                   exact ⟨olds, o1, o2, o4⟩
                 obtain ⟨base', hbase⟩ : ∃ base', a.eval x = .slice base' n cap := by
                   generalize a.eval x = u at hs
                   cases hs <;> exact ⟨_, rfl⟩
                 rw [hbase] at o2 run
                 have hrun := nnew base' n cap olds z0 i3 o2 hg0 hr2 (growslice_fits hg0 hr1)
                 intro K Q hK
                 unfold Oper.wp
                 rw [run _ _ hrun]
                 have hw : Sim base M W nt f g c a w.drew D μ := h.drew
                 obtain ⟨C2, hC2⟩ : ∃ C2, C2 = olds.toArray ++ news.toArray ++ Builtin.zeroCells z0.cells (grownCap w (n + m) cap e' - (n + m)) := ⟨_, rfl⟩
                 have hge := grownCap_ge w (n + m) cap e'
                 have hCs : C2.size = grownCap w (n + m) cap e' * ei'.size := by
                   rw [hC2]
                   simp only [Array.size_append, size_zeroCells, List.size_toArray, n1, o1, hzs]
                   rw [<- Nat.add_mul, <- Nat.add_mul]
                   congr 1
                   omega
                 rw [<- hC2]
                 have hle2 : (n + m) * ei'.size <= C2.size := by rw [hCs]; exact Nat.mul_le_mul_right _ hge
                 have hone : ones C2 := by
                   have q1 := zeb hsp o1 (fun i j hi hj => by obtain ⟨v, v1, v2, _⟩ := o4 i j hi hj; exact ⟨v, v1, v2⟩)
                   have q2 := zeb hsp n1 (fun i j hi hj => by obtain ⟨v, v1, v2, _⟩ := n4 i j hi hj; exact ⟨v, v1, v2⟩)
                   have q3 : ∀ v ∈ (Builtin.zeroCells z0.cells (grownCap w (n + m) cap e' - (n + m))).toList, one v := zeb hsp (by simp [size_zeroCells, hzs]) (fun i j hi hj => ⟨_, zgw hzs hi hj, i4 _ _ (getD_some (by omega))⟩)
                   exact zig hC2 q1 q2 q3
                 have hnew' := hw.new (hd _ hdst) hnew (.row e' ei'.size (n + m) (fun i j => L3 std zqd (L2 std zbk i n) (get (L2 std Nat.add off i) j) (src (L2 std Nat.sub i n) j))) C2 e' (n + m) (by simp) (zk4 hw hle2 hone (fun i j hi hj => by
                   by_cases hin : i < n
                   · obtain ⟨v, v1, v2, v3⟩ := o4 i j hin hj
                     have hlt := (List.getElem?_eq_some_iff.1 v1).1
                     refine ⟨v, ?_, v2, ?_⟩
                     · rw [hC2, Array.append_assoc, Array.getElem?_append_left (by simpa using hlt)]
                       simpa using v1
                     · have : L2 std zbk i n = true := by show zbk i n = true; rw [zcn]; exact hin
                       rw [this]; exact v3
                   · obtain ⟨v, v1, v2, v3⟩ := n4 (i - n) j (by omega) hj
                     have hlt := (List.getElem?_eq_some_iff.1 v1).1
                     have hi1 : i * ei'.size = n * ei'.size + (i - n) * ei'.size := by rw [<- Nat.add_mul]; congr 1; omega
                     refine ⟨v, ?_, v2, ?_⟩
                     · rw [hC2, Array.append_assoc, Array.getElem?_append_right (by simp [o1]; omega), Array.getElem?_append_left (by simp [o1]; omega)]
                       simp only [List.size_toArray, o1, List.getElem?_toArray]
                       rw [show i * ei'.size + j - n * ei'.size = (i - n) * ei'.size + j by omega]
                       exact v1
                     · have : L2 std zbk i n = false := by
                         show zbk i n = false
                         cases hx : zbk i n with
                         | false => rfl
                         | true => exact absurd (zd2 hx) hin
                       rw [this]; exact v3))
                 refine hK _ _ ⟨_, _, hnew'.put hd ?_⟩
                 have := R.sl (h := (w.drew.alloc (.cells C2 e')).heap) (D := D) (μ := fun id => if id = d then some (some (w.drew.heap.size, C2.size, n + m)) else μ id) d ei'.size 0 (n + m) w.heap.size C2.size (n + m) (grownCap w (n + m) cap e') (by simp) hge (by rw [hCs]; simp) (by omega)
                 simpa using this
             · trivial
           · trivial
         · trivial
       · trivial
     · trivial
   · trivial
 · trivial
theorem zqq (hT : zbw P T) {x y : Operand} {ts : Array TypeId} {t t' : Nat} (hts : ts.toList = [t, t']) (e : o.op = .call { callee := .builtin .append, args := #[x, y], argTypes := ts }) {vals : List AV}
   (hv : Ops w.heap D μ a [x, y] vals) {ob : Nat -> Option Ob} (hob : ∀ id z, ob id = some z -> g id = some z) :
   zc7 P base M W nt f g c o a w (zj3 T std o.dst t t' ob (zdi g o.op o.dst) vals) := by
 obtain rfl : ts = #[t, t'] := by apply Array.ext'; simpa using hts
 unfold zj3
 split
 · rename_i sz n get xv
   obtain ⟨hs, hv, _⟩ := hv
   split
   · rename_i d hc
     obtain ⟨hn, hdst⟩ := zc5 hc
     have hnew : g d = none := by
       simp only [zdi, e, zcq, hdst] at hn
       cases hg : g d with
       | none => rfl
       | some _ => rw [hg] at hn; cases hn
     split
     · rename_i sz0 ag ze e' esz eb eqf p1 p2 p3 hi
       obtain ⟨ok1, ok2⟩ := (hT t _ hi).k
       obtain ⟨ei', hei', hes⟩ := Option.map_eq_some_iff.1 ok2
       simp only [Prod.mk.injEq] at hes
       obtain ⟨hes1, hes2⟩ := hes
       subst hes1; subst hes2
       split
       · rename_i m src hsrc
         have c1 : zec T t' = true := by cases hx : zec T t' <;> simp_all
         have c2 : zbx 1 ei'.size = true := by cases hx : zbx 1 ei'.size <;> simp_all
         have c3 : (T.find e').isSome = true := by cases hx : (T.find e').isSome <;> simp_all
         rw [c1, c2, c3] at hsrc
         simp only [cond_true] at hsrc
         have hni := zlq hT c1
         have hsp := zbh c2
         obtain ⟨eti, heti⟩ := Option.isSome_iff_exists.1 c3
         obtain ⟨ii, z0, i1, i2, i3, i4, i5, i6⟩ := (hT e' eti heti).info
         rw [hei'] at i1
         cases i1
         have hzs : z0.cells.size = ei'.size := by rw [i5, <- i2]
         split
         · rename_i hsz
           obtain rfl := za4 hsz
           intro hb
           have hb : (zbk 0 m && zc0 ei'.bytes n m) = true := hb
           simp only [zc0, Bool.and_eq_true, decide_eq_true_eq, zcn] at hb
           obtain ⟨hm, hr1, hr2⟩ := hb
           obtain ⟨news, n1, n2, n3, n4⟩ := zga (P := P) h hob hsrc hv
           obtain ⟨olds, o1, o2, _, o4⟩ := zga (P := P) (esz := ei'.size) (m := n) (x := .lst ei'.size n get) (src := get) (ob := g) h (fun _ _ h => h) (by simp only [zcl, za6]) hs.lessx
           have run : ∀ u w', (Builtin.append_ #[t, t'] o.type #[a.eval x, a.eval y]).run P w = .ok u w' -> (execOp a.eval o).run P w = .ok (.value u) w' := by
             intro u w' hu
             unfold execOp
             rw [e]
             simp [resolve, invoke, builtin, hu]
           obtain ⟨base', hbase⟩ : ∃ base', a.eval x = .slice base' n n := by
             generalize a.eval x = u at hs
             cases hs with
             | lstx _ _ _ ad r => exact ⟨_, rfl⟩
           rw [hbase] at o2 run
           have hg0 : n < n + m := by omega
           have hrun := zcf (P := P) w t t' o.type e' ei' z0 ok1 hni hei' i3 base' n n (a.eval y) m olds news o2 n2 n3 hg0 hr2 (growslice_fits hg0 hr1)
           intro K Q hK
           unfold Oper.wp
           rw [run _ _ hrun]
           have hw : Sim base M W nt f g c a w.drew D μ := h.drew
           obtain ⟨C2, hC2⟩ : ∃ C2, C2 = olds.toArray ++ news.toArray ++ Builtin.zeroCells z0.cells (grownCap w (n + m) n e' - (n + m)) := ⟨_, rfl⟩
           have hge := grownCap_ge w (n + m) n e'
           have hCs : C2.size = grownCap w (n + m) n e' * ei'.size := by
             rw [hC2]
             simp only [Array.size_append, size_zeroCells, List.size_toArray, n1, o1, hzs]
             rw [<- Nat.add_mul, <- Nat.add_mul]
             congr 1
             omega
           rw [<- hC2]
           have hle2 : (n + m) * ei'.size <= C2.size := by rw [hCs]; exact Nat.mul_le_mul_right _ hge
           have hone : ones C2 := by
             have q1 := zeb hsp o1 (fun i j hi hj => by obtain ⟨v, v1, v2, _⟩ := o4 i j hi hj; exact ⟨v, v1, v2⟩)
             have q2 := zeb hsp n1 (fun i j hi hj => by obtain ⟨v, v1, v2, _⟩ := n4 i j hi hj; exact ⟨v, v1, v2⟩)
             have q3 : ∀ v ∈ (Builtin.zeroCells z0.cells (grownCap w (n + m) n e' - (n + m))).toList, one v := zeb hsp (by simp [size_zeroCells, hzs]) (fun i j hi hj => ⟨_, zgw hzs hi hj, i4 _ _ (getD_some (by omega))⟩)
             exact zig hC2 q1 q2 q3
           have hnew' := hw.new (hd _ hdst) hnew (.row e' ei'.size (n + m) (fun i j => zhc std (L2 std zbk i n) (get i j) (src (L2 std Nat.sub i n) j))) C2 e' (n + m) (by simp) (zk4 hw hle2 hone (zpk (C := fun k => C2[k]?) (fun i j hi hj => by
               obtain ⟨v, v1, v2, v3⟩ := o4 i j hi hj
               have hlt := (List.getElem?_eq_some_iff.1 v1).1
               refine ⟨v, ?_, v2, v3⟩
               rw [hC2, Array.append_assoc, Array.getElem?_append_left (by simpa using hlt)]
               simpa using v1) (fun i j hi hj => by
               obtain ⟨v, v1, v2, v3⟩ := n4 i j hi hj
               have hlt := (List.getElem?_eq_some_iff.1 v1).1
               refine ⟨v, ?_, v2, v3⟩
               rw [hC2, Array.append_assoc, Array.getElem?_append_right (by simp [o1]), Array.getElem?_append_left (by simp [o1]; omega)]
               simp [o1, v1])))
           refine hK _ _ ⟨_, _, hnew'.put hd ?_⟩
           show R _ _ _ (.sl d ei'.size 0 (n + m)) _
           have := R.sl (h := (w.drew.alloc (.cells C2 e')).heap) (D := D) (μ := fun id => if id = d then some (some (w.drew.heap.size, C2.size, n + m)) else μ id) d ei'.size 0 (n + m) w.heap.size C2.size (n + m) (grownCap w (n + m) n e') (by simp) hge (by rw [hCs]; simp) (by omega)
           simpa using this
         · trivial
       · trivial
     · trivial
   · trivial
 · trivial
theorem zya (hT : zbw P T) {t : Nat} {r : List Nat} {x : Operand} {ts : Array TypeId} (hts : ts.toList = t :: r) (e : o.op = .call { callee := .builtin .clear, args := #[x], argTypes := ts }) {vals : List AV} (hv : Ops w.heap D μ a [x] vals)
   {ob : Nat -> Option Ob} (hob : ∀ id z, ob id = some z -> g id = some z) {ice : Nat -> Bool} (hice : ∀ id, ice id = false -> c id = false) :
   zc7 P base M W nt f g c o a w (ygf T std t ob ice vals) := by
 have h0 : ts[0]? = some t := by rw [<- Array.getElem?_toList, hts]; rfl
 match vals, hv with
 | [v], ⟨hv, _⟩ =>
   unfold ygf
   simp only
   split
   · rename_i id sz off n sz0 ag ze e' esz eb eqf p1 p2 p3 hsl hi
     have hv : R w.heap D μ (.sl id sz off n) (a.eval x) := by
       unfold slOf at hsl
       split at hsl
       · cases hsl; exact hv
       · cases hsl; exact hv.less
       · cases hsl
     obtain ⟨ok1, ok2⟩ := (hT t _ hi).k
     obtain ⟨ei', hei', hes⟩ := Option.map_eq_some_iff.1 ok2
     simp only [Prod.mk.injEq] at hes
     obtain ⟨hes1, hes2⟩ := hes
     subst hes1; subst hes2
     split
     · rename_i ei ty sz' k get hei hsz c2 hic hg
       obtain rfl := za4 hsz
       have hg := hob _ _ hg
       have hic := hice _ hic
       split
       · rename_i hsz' hfr
         obtain rfl := za4 hsz'
         obtain ⟨ii, z0, i1, i2, i3, i4, i5, i6⟩ := (hT e' ei hei).info
         rw [hei'] at i1
         cases i1
         have hzs : z0.cells.size = ei'.size := by rw [i5, <- i2]
         have hzl : ei.zero.length = ei'.size := by rw [(i6 w.heap D μ).1, hzs]
         have run : ∀ u w', (Builtin.clear_ ts o.type #[a.eval x]).run P w = .ok u w' -> (execOp a.eval o).run P w = .ok (.value u) w' := by
           intro u w' hu
           unfold execOp
           rw [e]
           simp [resolve, invoke, builtin, hu]
         have none0 : ∀ ad cap, n = 0 -> a.eval x = .slice ad 0 cap -> Adv P base M W nt f g c o a w (.tup []) [(id, .row ty ei'.size k (fun i j => L3 std zqd (L3 std zdk off n i) (zbn .dead ei.zero j) (get i j)))] [] := by
           intro ad cap hn hu K Q hK
           unfold Oper.wp
           rw [run (.tuple #[]) w (by rw [hu]; cases ad <;> simp [Builtin.clear_, h0, run_underlying ok1])]
           have e1 : (fun i j => L3 std zqd (L3 std zdk off n i) (zbn .dead ei.zero j) (get i j)) = get := by
             funext i j
             have : L3 std zdk off n i = false := by
               subst hn
               show (zbx off i && zbk i (off + 0)) = false
               cases hq : (zbx off i && zbk i (off + 0)) with
               | false => rfl
               | true =>
                 rw [Bool.and_eq_true, zcn, zed] at hq
                 omega
             rw [this]; rfl
           rw [e1] at hK
           have e2 : zb5 g [(id, .row ty ei'.size k get)] = g := by
             funext q
             by_cases hq : q = id
             · subst hq; simp [zb5, za3, za6, hg]
             · simp [zb5, za3, zan (fun x => hq x.symm : ¬ id = q)]
           rw [e2] at hK
           exact hK _ _ ⟨_, _, h.put hd (.tup [] #[] rfl (fun i x v hx => by simp at hx))⟩
         generalize hu : a.eval x = u at hv
         cases hv with
         | slv _ _ ad => exact none0 _ _ rfl hu
         | sl0 => exact none0 _ _ rfl hu
         | sl _ _ _ _ b z mm cap hμ hn hz ho =>
           by_cases hn0 : n = 0
           · subst hn0; exact none0 _ _ rfl hu
           have hm := (h.obs id _ _ hg hμ).1
           subst hm
           obtain ⟨w', hst, hsim⟩ := h.seg (P := P) hμ hg hic (zbh c2) (off := off) (m := n) (src := fun _ j => zbn .dead ei.zero j) (news := (Builtin.zeroCells z0.cells n).toList) ho (by simp [size_zeroCells, hzs]) (fun i j hi hj => by
             refine ⟨_, zgw hzs hi hj, i4 _ _ (getD_some (by omega)), ?_⟩
             exact zdm ((i6 w.heap D μ).2 j _ _ (zaz .dead ei.zero j (by omega)) (getD_some (by omega))) (zd1 hfr _ _ (zaz _ _ _ (by omega))))
           intro K Q hK
           unfold Oper.wp
           rw [run (.tuple #[]) w' (by
             rw [hu]
             cases n with
             | zero => exact absurd rfl hn0
             | succ n => simp [Builtin.clear_, h0, run_underlying ok1, zeroValue, typeInfo, program, Sem.run, hei', i3, hst])]
           exact hK _ _ ⟨_, _, hsim.put hd (.tup [] #[] rfl (fun i x v hx => by simp at hx))⟩
       · trivial
     · trivial
   · trivial
end
end Sy
end Go.Proofs.YtogpolfhcbgcbaaGreatDoor
namespace Go.Proofs.YtogpolfhcbgcbaaGreatDoor
namespace Sy
open Go Go.RowKit
set_option linter.unusedSimpArgs false
set_option linter.unusedVariables false
theorem ye7 : ∀ {x y : List UInt8}, yrw x y = true -> x = y
 | [], [], _ => rfl
 | [], _ :: _, e => by cases e
 | _ :: _, [], e => by cases e
 | a :: x, b :: y, e => by
   unfold yrw at e
   split at e
   · rename_i h
     rw [UInt8.toNat_inj.1 (za4 h), ye7 e]
   · cases e
theorem zrd : ∀ x : List UInt8, yrw x x = true
 | [] => rfl
 | a :: x => by unfold yrw; rw [za6]; exact zrd x
theorem zns {a b : Ky} (e : kyb a b = true) : a = b := by
 unfold kyb at e
 split at e
 · rw [of_decide_eq_true e]
 · rw [ye7 e]
 · cases e
theorem ye9 {a b : Ky} (h : ¬ a = b) : kyb a b = false := by
 cases e : kyb a b with
 | true => exact absurd (zns e) h
 | false => rfl
theorem yjo {kk : KK} {v : Value} {k : Ky} (h : zxo kk v k) (hp : znl kk = true) : kyb k k = true := by
 cases kk with
 | i ik => obtain ⟨n, rfl, rfl⟩ := h; simp [kyb]
 | s => obtain ⟨n, rfl, rfl⟩ := h; exact zrd _
 | a ks => cases hp
 | no => cases hp
theorem zre {q : Ky} (hq : kyb q q = true) (v : AV) (k' : Ky) : ∀ l, zba (zwj l q v) k' = if k' = q then some v else zba l k'
 | [] => by
   simp only [zwj, zba]
   by_cases h : k' = q
   · subst h; rw [hq, if_pos rfl]
   · rw [ye9 (fun e => h e.symm), if_neg h]
 | (k, x) :: r => by
   unfold zwj
   split
   · rename_i h
     obtain rfl := zns h
     simp only [zba]
     by_cases h : k' = k
     · subst h; rw [hq, if_pos rfl]
     · rw [ye9 (fun e => h e.symm), if_neg h]
   · rename_i h
     simp only [zba]
     rw [zre hq v k' r]
     by_cases h' : k' = q
     · subst h'; rw [h, if_pos rfl]
     · rw [if_neg h', if_neg h']
theorem zrf {q : Ky} {x : AV} : ∀ {l}, zba l q = some x -> q ∈ l.map Prod.fst
 | [], e => by cases e
 | (k, y) :: r, e => by
   unfold zba at e
   split at e
   · rename_i h; rw [zns h]; simp
   · simp [zrf e]
theorem zr6 {q : Ky} (hq : kyb q q = true) : ∀ {l}, q ∈ l.map Prod.fst -> (zba l q).isSome = true
 | [], e => by simp at e
 | (k, y) :: r, e => by
   unfold zba
   split
   · rfl
   · rename_i h
     simp only [List.map_cons, List.mem_cons] at e
     rcases e with rfl | e
     · rw [hq] at h; cases h
     · exact zr6 hq e
theorem zrg {q : Ky} (k' : Ky) : ∀ l : List (Ky × AV), (l.map Prod.fst).Nodup -> zba (ztw l q) k' = if k' = q then none else zba l k'
 | [], _ => by simp [ztw, zba]
 | (k, x) :: r, nd => by
   simp only [List.map_cons, List.nodup_cons] at nd
   unfold ztw
   split
   · rename_i h
     obtain rfl := zns h
     by_cases h' : k' = k
     · subst h'
       rw [if_pos rfl]
       cases e : zba r k' with
       | none => rfl
       | some y => exact absurd (zrf e) nd.1
     · rw [if_neg h']; simp only [zba]; rw [ye9 (fun e => h' e.symm)]
   · rename_i h
     simp only [zba]
     rw [zrg k' r nd.2]
     by_cases h' : k' = q
     · subst h'; rw [h, if_pos rfl]
     · rw [if_neg h', if_neg h']
theorem zm1 {q : Ky} (v : AV) : ∀ l, (zwj l q v).map Prod.fst = if (zba l q).isSome then l.map Prod.fst else l.map Prod.fst ++ [q]
 | [] => by simp [zwj, zba]
 | (k, x) :: r => by
   unfold zwj zba
   split
   · rename_i h; obtain rfl := zns h; simp
   · rename_i h
     simp only [List.map_cons, zm1 v r]
     cases (zba r q).isSome <;> simp
theorem zwi {q : Ky} (v : AV) (l : List (Ky × AV)) : (zwj l q v).length = if (zba l q).isSome then l.length else l.length + 1 := by
 have := congrArg List.length (zm1 (q := q) v l)
 rw [List.length_map] at this
 rw [this]
 cases (zba l q).isSome <;> simp
theorem zza {q : Ky} (hq : kyb q q = true) (v : AV) {l : List (Ky × AV)} (nd : (l.map Prod.fst).Nodup) : ((zwj l q v).map Prod.fst).Nodup := by
 rw [zm1]
 cases e : (zba l q).isSome with
 | true => simpa using nd
 | false =>
   simp only [Bool.false_eq_true, if_false]
   rw [List.nodup_append]
   refine ⟨nd, by simp, fun a ha b hb => ?_⟩
   simp only [List.mem_singleton] at hb
   subst hb
   rintro rfl
   rw [zr6 hq ha] at e
   cases e
theorem zwl {q : Ky} : ∀ l : List (Ky × AV), (ztw l q).Sublist l
 | [] => by simp [ztw]
 | (k, x) :: r => by
   unfold ztw
   split
   · exact List.sublist_cons_self _ _
   · exact (zwl r).cons_cons _
theorem zpj {q : Ky} : ∀ l : List (Ky × AV), (ztw l q).length = if (zba l q).isSome then l.length - 1 else l.length
 | [] => by simp [ztw, zba]
 | (k, x) :: r => by
   unfold ztw zba
   split
   · simp
   · simp only [List.length_cons, zpj r]
     cases e : zba r q with
     | none => simp
     | some y =>
       have : r ≠ [] := by rintro rfl; cases e
       have := List.length_pos_iff.2 this
       simp only [Option.isSome_some, if_true]
       omega
def yvr (h : Array Obj) (D : Nat -> Prop) (μ : Mu) (kk : KK) (l : List (Ky × AV)) (b : Nat) (es : Array MapEntry) (clock : Nat) (kf : Nat -> Ky) : Prop :=
 h[b]? = some (.map es clock) /\ es.size = l.length /\ zfh kk (fun k => (zba l k).isSome) es clock kf /\ (l.map Prod.fst).Nodup /\ ∀ (i : Nat) e, es[i]? = some e -> ∃ x, zba l (kf i) = some x /\ R h D μ x e.val
theorem yn0 {h : Array Obj} {D : Nat -> Prop} {μ : Mu} (ob : Nat -> Option Ob) {x : AV} {v : Value} (r : R h D μ x v) : R h D μ (yb1 ob x) v := by
 unfold yb1
 split
 · split
   · exact .dead _
   · exact r
 · exact r
theorem yb0 {h : Array Obj} {D : Nat -> Prop} {μ : Mu} (ob : Nat -> Option Ob) : ∀ (cs : List AV) (us : List Value), cs.length = us.length -> (∀ (i : Nat) x v, cs[i]? = some x -> us[i]? = some v -> R h D μ x v) ->
   (zck (yb1 ob) cs).length = us.length /\ ∀ (i : Nat) x v, (zck (yb1 ob) cs)[i]? = some x -> us[i]? = some v -> R h D μ x v
 | [], [], _, _ => ⟨rfl, fun i x v hx => by simp [zck] at hx⟩
 | [], _ :: _, e, _ => by simp at e
 | _ :: _, [], e, _ => by simp at e
 | x :: cs, v :: us, e, hr => by
   obtain ⟨h1, h2⟩ := yb0 ob cs us (by simpa using e) (fun i x v hx hv => hr (i + 1) x v (by simpa using hx) (by simpa using hv))
   refine ⟨by simp [zck, h1], fun i y u hy hu => ?_⟩
   cases i with
   | zero => simp [zck] at hy hu; subst hy hu; exact yn0 ob (hr 0 x v rfl rfl)
   | succ i => simp [zck] at hy hu; exact h2 i y u hy hu
theorem ymz {h : Array Obj} {D : Nat -> Prop} {μ : Mu} (ob : Nat -> Option Ob) {x : AV} {v : Value} (r : R h D μ x v) : R h D μ (yhe ob x) v := by
 unfold yhe
 split
 · obtain ⟨us, rfl, o1, r1⟩ := r.inv_agg
   obtain ⟨h1, h2⟩ := yb0 (h := h) (D := D) (μ := μ) ob _ us.toList (by rw [r1.1]; simp) (fun i x v hx hv => r1.2 i x v hx (by simpa using hv))
   exact .agg _ _ (by simpa using h1) o1 (fun i x v hx hv => h2 i x v hx (by simpa using hv))
 · exact r
theorem zvt {h : Array Obj} {D : Nat -> Prop} {μ : Mu} {a : Act} {ob : Nat -> Option Ob} : ∀ {l : List Operand} {vals : List AV}, Ops h D μ a l vals -> Ops h D μ a l (zck (yhe ob) vals)
 | [], [], _ => trivial
 | [], _ :: _, hv => hv.elim
 | _ :: _, [], hv => hv.elim
 | _ :: _, _ :: _, hv => ⟨ymz ob hv.1, zvt hv.2⟩
theorem zwp {P : Program} {T : TT} (hT : zbw P T) {kt : Nat} (e : zzd T kt = true) : ∃ e, P.underlying kt = some (.pointer e) := by
 unfold zzd at e
 split at e
 · rename_i hf; exact (hT _ _ hf).k
 · cases e
theorem yds {ob : Nat -> Option Ob} {vals : List AV} {id : Nat} {q : Bool} (e : yrt ob vals = some (id, q)) : ∃ r, vals = .mp id :: r /\ ob id = some (.mapq q) := by
 unfold yrt at e
 split at e
 · rename_i id' r
   split at e
   · rename_i h; cases e; exact ⟨r, rfl, h⟩
   · cases e
 · cases e
theorem zvk {P : Program} {kt : Nat} {e : TypeId} (hu : P.underlying kt = some (.pointer e)) (v : Value) (w : World) :
   (∀ b, (Instr.checkKey b 10000 kt v).run P w = .ok () w) /\ (Instr.findKey kt v []).run P w = .ok none w := by
 refine ⟨fun b => ?_, MapKept.run_findKey hu rfl⟩
 unfold Instr.checkKey
 simp only [Sem.run_bind, run_underlying hu, Result.andThen]
 rfl
theorem zpb {ob : Nat -> Option Ob} {vals : List AV} {id : Nat} {kk : KK} {l : List (Ky × AV)} (e : yh4 ob vals = some (id, kk, l)) : ∃ r, vals = .mp id :: r /\ ob id = some (.mapl kk l) := by
 unfold yh4 at e
 split at e
 · rename_i id' r
   split at e
   · rename_i h; cases e; exact ⟨r, rfl, h⟩
   · cases e
 · cases e
section
variable {P : Program} {T : TT} {base : Nat} {M : Two} {W : World} {nt : Nat} {f : Nat -> Option AV} {g : Nat -> Option Ob} {c : Nat -> Bool} {a : Act} {w : World} {D : Nat -> Prop} {μ : Mu} {o : Oper}
variable (h : Sim base M W nt f g c a w D μ) (hd : ∀ d, o.dst = some d -> d < nt)
include h hd
theorem zy2 (hT : zbw P T) {t : TypeId} (e : o.op = .makeMap t none) : zc7 P base M W nt f g c o a w (yg6 T o.dst t (zdi g o.op o.dst)) := by
 unfold yg6
 split
 · rename_i d hc
   obtain ⟨hn, hdst⟩ := zc5 hc
   have hnew : g d = none := by
     simp only [zdi, e, zcq, hdst] at hn
     cases hg : g d with
     | none => rfl
     | some _ => rw [hg] at hn; cases hn
   split
   · rename_i sz ag ze kt et eqf p1 p2 p3 hi
     have run : (execOp a.eval o).run P w = .ok (.value (.map (some w.heap.size))) (w.alloc (.map #[] 0)) := by
       unfold execOp
       rw [e]
       simp [Instr.makeMap]
     intro K Q hK
     unfold Oper.wp
     rw [run]
     have h1 := h.newO (hd _ hdst) hnew (.mapl (zhe T kt) []) (.map #[] 0) 0 0 (by simp)
       ⟨#[], 0, fun _ => .i 0, heap_alloc_new _ _, rfl, ⟨fun i x hx => (by simp at hx), fun k hk => (by cases hk), MapKept.stamped_empty 0⟩, List.nodup_nil, fun i x hx => (by simp at hx)⟩
     exact hK _ _ ⟨_, _, h1.put hd (.mp _ _ 0 0 (by simp))⟩
   · trivial
 · trivial
theorem zy1 (hT : zbw P T) {t : TypeId} (e : o.op = .makeMap t none) : zc7 P base M W nt f g c o a w (yg5 T o.dst t (zdi g o.op o.dst)) := by
 unfold yg5
 split
 · rename_i d hc
   obtain ⟨hn, hdst⟩ := zc5 hc
   have hnew : g d = none := by
     simp only [zdi, e, zcq, hdst] at hn
     cases hg : g d with
     | none => rfl
     | some _ => rw [hg] at hn; cases hn
   split
   · rename_i sz ag ze kt et eqf p1 p2 p3 hi
     have run : (execOp a.eval o).run P w = .ok (.value (.map (some w.heap.size))) (w.alloc (.map #[] 0)) := by
       unfold execOp
       rw [e]
       simp [Instr.makeMap]
     intro K Q hK
     unfold Oper.wp
     rw [run]
     have h1 := h.newO (hd _ hdst) hnew (.mapq true) (.map #[] 0) 0 0 (by simp) ⟨#[], 0, heap_alloc_new _ _, fun _ => rfl⟩
     exact hK _ _ ⟨_, _, h1.put hd (.mp _ _ 0 0 (by simp))⟩
   · trivial
 · trivial
omit hd in
theorem ye0 {id : Nat} {q : Bool} (hg : g id = some (.mapq q)) {v : Value} (r : R w.heap D μ (.mp id) v) :
   ∃ b z m es clock, v = .map (some b) /\ μ id = some (some (b, z, m)) /\ w.heap[b]? = some (.map es clock) /\ (q = true -> es = #[]) := by
 cases r with
 | mp _ b z m hμ =>
   obtain ⟨es, clock, hh⟩ := h.obs id _ _ hg hμ
   exact ⟨b, z, m, es, clock, rfl, hμ, hh⟩
theorem zy3 (hT : zbw P T) {t : TypeId} {x y : Operand} {ok : Bool} (e : o.op = .lookup t x y ok) {vals : List AV} (hv : Ops w.heap D μ a [x, y] vals) {ob : Nat -> Option Ob} (hob : ∀ id z, ob id = some z -> g id = some z)
   {id : Nat} {q : Bool} (hm : yrt ob vals = some (id, q)) : zc7 P base M W nt f g c o a w (yg7 T t ok q vals) := by
 obtain ⟨r, rfl, hg⟩ := yds hm
 match r, hv with
 | [k], ⟨hv, hk, _⟩ =>
   obtain ⟨b, z0, m, es, clock, hu', hμ, hb, hes⟩ := ye0 h (hob _ _ hg) hv
   unfold yg7
   simp only
   split
   · rename_i sz ag ze kt et eqf p1 p2 p3 hi
     have hu := (hT t _ hi).k
     simp only [kOk] at hu
     split
     · rename_i ei hei hptr
       obtain ⟨z, z1, z2⟩ := (hT et ei hei).zeroR
       have rz : R w.heap D μ (zg1 ei) z := z2 _ _ _
       intro hq
       have hes := hes hq
       subst hes
       obtain ⟨e', hu2⟩ := zwp hT hptr
       obtain ⟨f1, g2⟩ := zvk hu2 (a.eval y) w
       have hrun : (Instr.lookup t (a.eval x) (a.eval y) ok).run P w = .ok (cond ok (.tuple #[z, .bool false]) z) w := by
         rw [hu']
         unfold Instr.lookup
         simp only [Sem.run_bind, run_underlying hu, Result.andThen_ok, MapKept.run_getObj_map hb, f1, g2, z1, Sem.run_pure, Array.toList]
         cases ok <;> rfl
       cases ok with
       | true =>
         refine za0 h hd (u := .tuple #[z, .bool false]) ?_ (.tup _ _ rfl (fun i x' v hx hv => ?_))
         · unfold execOp
           rw [e]
           simp [hrun]
         · match i with
           | 0 => simp at hx hv; subst hx; subst hv; exact rz
           | 1 => simp at hx hv; subst hx; subst hv; exact .bool _
           | i + 2 => simp at hx
       | false =>
         refine za0 h hd (u := z) ?_ rz
         unfold execOp
         rw [e]
         simp [hrun]
     · trivial
   · trivial
 | [], ⟨_, hv⟩ => exact hv.elim
theorem ybz (hT : zbw P T) {t : TypeId} {x y v : Operand} (e : o.op = .mapUpdate t x y v) {vals : List AV} (hv : Ops w.heap D μ a [x, y, v] vals) {ob : Nat -> Option Ob} (hob : ∀ id z, ob id = some z -> g id = some z) {ice : Nat -> Bool} (hice : ∀ id, ice id = false -> c id = false)
   {id : Nat} {q : Bool} (hm : yrt ob vals = some (id, q)) : zc7 P base M W nt f g c o a w (yqw T t ice id q vals) := by
 obtain ⟨r, rfl, hg⟩ := yds hm
 have hg := hob _ _ hg
 match r, hv with
 | [k, val'], ⟨hm, hk, hx, _⟩ =>
   obtain ⟨b, z, m, es, clock, hum, hμ, hb, hes⟩ := ye0 h hg hm
   unfold yqw
   simp only
   split
   · rename_i sz ag ze kt et eqf p1 p2 p3 hi
     have hu := (hT t _ hi).k
     simp only [kOk] at hu
     split
     · rename_i hic hptr
       have hic := hice _ hic
       intro hq
       have hes := hes hq
       subst hes
       obtain ⟨e', hu2⟩ := zwp hT hptr
       obtain ⟨f1, g2⟩ := zvk hu2 (a.eval y) w
       have hblt : b < w.heap.size := (Array.getElem?_eq_some_iff.1 hb).1
       have run : (execOp a.eval o).run P w = .ok .skip { w with heap := w.heap.setIfInBounds b (.map #[{ key := a.eval y, val := a.eval v, born := clock }] (clock + 1)) } := by
         unfold execOp
         rw [e]
         simp [hum, Instr.mapUpdate, run_underlying hu, MapKept.run_getObj_map hb, f1, g2, MapKept.run_setObj_map _ hb, Result.andThen]
       intro K Q hK
       unfold Oper.wp
       rw [run]
       have h1 := h.turn (ob' := .mapq false) (w' := { w with heap := w.heap.setIfInBounds b (.map #[{ key := a.eval y, val := a.eval v, born := clock }] (clock + 1)) }) hμ hg (by simp) trivial hic rfl rfl rfl (by simp) (fun k' hk' => by simp [Ne.symm hk'])
         (fun hD => ⟨_, _, by simp [hblt]; exact ⟨rfl, rfl⟩, fun h => by cases h⟩)
       exact hK _ _ ⟨_, _, h1.put hd (.dead _)⟩
     · trivial
   · trivial
 | [], ⟨_, hv⟩ => exact hv.elim
 | [_], ⟨_, _, hv⟩ => exact hv.elim
omit hd in
theorem zpe {id : Nat} {kk : KK} {l : List (Ky × AV)} (hg : g id = some (.mapl kk l)) {v : Value} (r : R w.heap D μ (.mp id) v) :
   ∃ b z m es clock kf, v = .map (some b) /\ μ id = some (some (b, z, m)) /\ yvr w.heap D μ kk l b es clock kf := by
 cases r with
 | mp _ b z m hμ =>
   obtain ⟨es, clock, kf, hh⟩ := h.obs id _ _ hg hμ
   exact ⟨b, z, m, es, clock, kf, rfl, hμ, hh⟩
theorem yc6 (hT : zbw P T) {x : Operand} {t : Nat} {r : List Nat} {ts : Array TypeId} (hts : ts.toList = t :: r) (e : o.op = .call { callee := .builtin .len, args := #[x], argTypes := ts }) {vals : List AV}
   (hv : Ops w.heap D μ a [x] vals) {ob : Nat -> Option Ob} (hob : ∀ id z, ob id = some z -> g id = some z) {id : Nat} {kk : KK} {l : List (Ky × AV)} (hm : yh4 ob vals = some (id, kk, l)) :
   zc7 P base M W nt f g c o a w (yr1 T t l vals) := by
 obtain ⟨q, rfl, hg⟩ := zpb hm
 match q, hv with
 | [], ⟨hv, _⟩ =>
   obtain ⟨b, z, m, es, clock, kf, hu, hμ, hb, hn, -⟩ := zpe h (hob _ _ hg) hv
   unfold yr1
   simp only
   split
   · rename_i sz ag ze kt et eqf p1 p2 p3 hi
     have ok := (hT t _ hi).k
     simp only [kOk] at ok
     have h0 : ts[0]? = some t := by rw [<- Array.getElem?_toList, hts]; rfl
     refine za0 h hd (u := .int .i64 l.length) ?_ (by rw [zal]; exact .int _ _)
     unfold execOp
     rw [e]
     simp [resolve, invoke, builtin, hu, Builtin.len_, h0, run_underlying ok, MapKept.run_getObj_map hb, Result.andThen, hn]
     rfl
   · trivial
theorem zy4 (hT : zbw P T) {t : TypeId} {x y : Operand} {ok : Bool} (e : o.op = .lookup t x y ok) {vals : List AV} (hv : Ops w.heap D μ a [x, y] vals) {ob : Nat -> Option Ob} (hob : ∀ id z, ob id = some z -> g id = some z)
   {id : Nat} {kk : KK} {l : List (Ky × AV)} (hm : yh4 ob vals = some (id, kk, l)) :
   zc7 P base M W nt f g c o a w (yg8 T t ok kk l vals) := by
 obtain ⟨q, rfl, hg⟩ := zpb hm
 match q, hv with
 | [k], ⟨hv, hk, _⟩ =>
   obtain ⟨b, z0, m, es, clock, kf, hu', hμ, hb, hn, hks, hnd, hr⟩ := zpe h (hob _ _ hg) hv
   unfold yg8
   simp only
   split
   · rename_i sz ag ze kt et eqf p1 p2 p3 hi
     have hu := (hT t _ hi).k
     simp only [kOk] at hu
     split
     · rename_i ei hei
       obtain ⟨z, z1, z2⟩ := (hT et ei hei).zeroR
       have rz : R w.heap D μ (zg1 ei) z := z2 _ _ _
       have fin : ∀ (u : Value) (av : AV) (bb : Bool), (Instr.lookup t (a.eval x) (a.eval y) ok).run P w = .ok (cond ok (.tuple #[u, .bool bb]) u) w -> R w.heap D μ av u ->
           Adv P base M W nt f g c o a w (cond ok (.tup [av, .bool bb]) av) [] [] := by
         intro u av bb hrun ru
         cases ok with
         | true =>
           refine za0 h hd (u := .tuple #[u, .bool bb]) ?_ (.tup _ _ rfl (fun i x' v hx hv => ?_))
           · unfold execOp
             rw [e]
             simp [hrun]
           · match i with
             | 0 => simp at hx hv; subst hx; subst hv; exact ru
             | 1 => simp at hx hv; subst hx; subst hv; exact .bool _
             | i + 2 => simp at hx
         | false =>
           refine za0 h hd (u := u) ?_ ru
           unfold execOp
           rw [e]
           simp [hrun]
       split
       · rename_i key hkk hke
         obtain ⟨rfl, hp⟩ := zjr hkk
         have hkey := zzc hke hk
         obtain ⟨f1, f2, f3⟩ := zh7 hT hks hkey hp w
         rcases f3 with ⟨g1, g2, _⟩ | ⟨j, x', g1, g2, g3, g4, g5⟩
         · split
           · rename_i y' hy; rw [hy] at g1; cases g1
           · refine fin z _ false ?_ rz
             rw [hu']
             unfold Instr.lookup
             simp only [Sem.run_bind, run_underlying hu, Result.andThen_ok, MapKept.run_getObj_map hb, f1, g2, z1, Sem.run_pure]
             cases ok <;> rfl
         · obtain ⟨y', hy, ry⟩ := hr j x' g3
           rw [g2] at hy
           rw [hy]
           refine fin x'.val _ true ?_ ry
           rw [hu']
           unfold Instr.lookup
           simp only [Sem.run_bind, run_underlying hu, Result.andThen_ok, MapKept.run_getObj_map hb, f1, g5, Sem.run_pure]
           cases ok <;> rfl
       · trivial
     · trivial
   · trivial
 | [], ⟨_, hv⟩ => exact hv.elim
theorem yc0 (hT : zbw P T) {t : TypeId} {x y v : Operand} (e : o.op = .mapUpdate t x y v) {vals : List AV} (hv : Ops w.heap D μ a [x, y, v] vals) {ob : Nat -> Option Ob} (hob : ∀ id z, ob id = some z -> g id = some z) {ice : Nat -> Bool} (hice : ∀ id, ice id = false -> c id = false)
   {id : Nat} {kk : KK} {l : List (Ky × AV)} (hm : yh4 ob vals = some (id, kk, l)) :
   zc7 P base M W nt f g c o a w (yqx T t ice id kk l vals) := by
 obtain ⟨q, rfl, hg⟩ := zpb hm
 have hg := hob _ _ hg
 match q, hv with
 | [k, val'], ⟨hm, hk, hx, _⟩ =>
   obtain ⟨b, z, m, es, clock, kf, hum, hμ, hb, hn, hks, hnd, hr⟩ := zpe h hg hm
   unfold yqx
   simp only
   split
   · rename_i sz ag ze kt et eqf p1 p2 p3 hi
     have hu := (hT t _ hi).k
     simp only [kOk] at hu
     split
     · rename_i key hic hkk hke
       have hic := hice _ hic
       obtain ⟨rfl, hp⟩ := zjr hkk
       have hkey := zzc hke hk
       have hq := yjo hkey hp
       obtain ⟨f1, f2, f3⟩ := zh7 hT hks hkey hp w
       obtain ⟨es', clock', kf', hrun, hn', hks', hr'⟩ : ∃ es' clock' kf', (Instr.mapUpdate t (.map (some b)) (a.eval y) (a.eval v)).run P w = .ok () { w with heap := w.heap.setIfInBounds b (.map es' clock') } /\ es'.size = (zwj l key val').length /\
           zfh (zhe T kt) (fun k => (zba (zwj l key val') k).isSome) es' clock' kf' /\ ∀ (i : Nat) e, es'[i]? = some e -> ∃ x, zba (zwj l key val') (kf' i) = some x /\ R w.heap D μ x e.val := by
         simp only [zre hq]
         rcases f3 with ⟨g1, g2, g3⟩ | ⟨j, x', g1, g2, g3, g4, g5⟩
         · refine ⟨es.push { key := a.eval y, val := a.eval v, born := clock }, clock + 1, fun i => if i = es.size then key else kf i, ?_, ?_, ?_, ?_⟩
           · simp [Instr.mapUpdate, run_underlying hu, MapKept.run_getObj_map hb, f1, g2, MapKept.run_setObj_map _ hb, Result.andThen]
           · rw [zwi, g1]; simp [hn]
           · refine ⟨fun i x' hx' => ?_, fun k' hk' => ?_, MapKept.stamped_push hks.st g3⟩
             · rw [Array.getElem?_push] at hx'
               split at hx'
               · rename_i hi'; cases hx'; rw [if_pos hi']; exact ⟨hkey, by simp⟩
               · rename_i hi'; rw [if_neg hi']
                 obtain ⟨q1, q2⟩ := hks.key i x' hx'
                 refine ⟨q1, ?_⟩
                 by_cases h2 : kf i = key
                 · simp [h2]
                 · simp only [if_neg h2]; exact q2
             · by_cases h2 : k' = key
               · exact ⟨es.size, by simp, by simp [h2]⟩
               · simp only [if_neg h2] at hk'
                 obtain ⟨i, i1, i2⟩ := hks.all k' hk'
                 exact ⟨i, by simp; omega, by rw [if_neg (by omega)]; exact i2⟩
           · intro i x' hx'
             rw [Array.getElem?_push] at hx'
             split at hx'
             · rename_i hi'; cases hx'; simp only [hi', if_true]
               exact ⟨_, rfl, hx⟩
             · rename_i hi'; simp only [if_neg hi']
               have hne : ¬ kf i = key := by
                 rintro q
                 have := (hks.key i x' hx').2
                 rw [q] at this
                 exact absurd (this.symm.trans g1) (by simp)
               simp only [if_neg hne]
               exact hr i x' hx'
         · have hlt : j < es.size := (Array.getElem?_eq_some_iff.1 g3).1
           refine ⟨es.modify j fun e => { e with key := a.eval y, val := a.eval v }, clock, kf, ?_, ?_, ?_, ?_⟩
           · simp [Instr.mapUpdate, run_underlying hu, MapKept.run_getObj_map hb, f1, f2, g3, g4, g5, MapKept.run_setObj_map _ hb, Result.andThen]
           · rw [zwi, g1]; simp [hn]
           · refine ⟨fun i x2 hx2 => ?_, fun k' hk' => ?_, MapKept.stamped_modify hks.st _ _ (fun _ _ => rfl) (fun e' _ he' => by rw [g3] at he'; cases he'; exact g4.symm)⟩
             · rw [Array.getElem?_modify] at hx2
               split at hx2
               · rename_i hi'
                 subst hi'
                 rw [g3] at hx2
                 cases hx2
                 rw [g2]
                 exact ⟨hkey, by simp⟩
               · obtain ⟨q1, q2⟩ := hks.key i x2 hx2
                 refine ⟨q1, ?_⟩
                 by_cases h2 : kf i = key
                 · simp [h2]
                 · simp only [if_neg h2]; exact q2
             · by_cases h2 : k' = key
               · exact ⟨j, by simpa using hlt, by rw [g2, h2]⟩
               · simp only [if_neg h2] at hk'
                 obtain ⟨i, i1, i2⟩ := hks.all k' hk'
                 exact ⟨i, by simpa using i1, i2⟩
           · intro i x2 hx2
             rw [Array.getElem?_modify] at hx2
             split at hx2
             · rename_i hi'
               subst hi'
               rw [g3] at hx2
               cases hx2
               rw [g2]
               exact ⟨_, if_pos rfl, hx⟩
             · rename_i hi'
               have hne : ¬ kf i = key := by
                 rintro q
                 have k1 := (hks.key i x2 hx2).1
                 rw [q] at k1
                 have k3 : x2.key = x'.key := by rw [g4]; exact k1.val hkey
                 have hi2 : i < es.size := (Array.getElem?_eq_some_iff.1 hx2).1
                 have nd := hks.st.2.2
                 have p1 : (es.toList.map (·.key))[i]? = some x2.key := by simp [hx2]
                 have p2 : (es.toList.map (·.key))[j]? = some x'.key := by simp [g3]
                 rw [k3, <- p2] at p1
                 have := (List.getElem?_inj (by simpa using hi2) nd).1 p1
                 exact hi' this.symm
               simp only [if_neg hne]
               exact hr i x2 hx2
       have hblt : b < w.heap.size := (Array.getElem?_eq_some_iff.1 hb).1
       have run : (execOp a.eval o).run P w = .ok .skip { w with heap := w.heap.setIfInBounds b (.map es' clock') } := by
         unfold execOp
         rw [e]
         simp [hum, hrun]
       intro K Q hK
       unfold Oper.wp
       rw [run]
       have h1 := h.turn (ob' := .mapl (zhe T kt) (zwj l key val')) (w' := { w with heap := w.heap.setIfInBounds b (.map es' clock') }) hμ hg (by simp) trivial hic rfl rfl rfl (by simp) (fun k' hk' => by simp [Ne.symm hk'])
         (fun hD => ⟨es', clock', kf', by simp [hblt], hn', hks', zza hq _ hnd, fun i x' hx' => by
           obtain ⟨y', y1, y2⟩ := hr' i x' hx'
           exact ⟨y', y1, y2.mono hD (fun _ h => h) (fun _ _ h => h)⟩⟩)
       exact hK _ _ ⟨_, _, h1.put hd (.dead _)⟩
     · trivial
   · trivial
 | [], ⟨_, hv⟩ => exact hv.elim
 | [_], ⟨_, _, hv⟩ => exact hv.elim
theorem zy0 (hT : zbw P T) {x y : Operand} {t t' : Nat} {ts : Array TypeId} (hts : ts.toList = [t, t']) (e : o.op = .call { callee := .builtin .delete, args := #[x, y], argTypes := ts }) {vals : List AV} (hv : Ops w.heap D μ a [x, y] vals) {ob : Nat -> Option Ob} (hob : ∀ id z, ob id = some z -> g id = some z) {ice : Nat -> Bool} (hice : ∀ id, ice id = false -> c id = false)
   {id : Nat} {kk : KK} {l : List (Ky × AV)} (hm : yh4 ob vals = some (id, kk, l)) :
   zc7 P base M W nt f g c o a w (yg4 T t ice id kk l vals) := by
 have hts' : ts = #[t, t'] := by apply Array.ext'; simpa using hts
 subst hts'
 obtain ⟨q, rfl, hg⟩ := zpb hm
 have hg := hob _ _ hg
 match q, hv with
 | [k], ⟨hm, hk, _⟩ =>
   obtain ⟨b, z, m, es, clock, kf, hum, hμ, hb, hn, hks, hnd, hr⟩ := zpe h hg hm
   unfold yg4
   simp only
   split
   · rename_i sz ag ze kt et eqf p1 p2 p3 hi
     have hu := (hT t _ hi).k
     simp only [kOk] at hu
     split
     · rename_i key hic hkk hke
       have hic := hice _ hic
       obtain ⟨rfl, hp⟩ := zjr hkk
       have hkey := zzc hke hk
       obtain ⟨f1, f2, f3⟩ := zh7 hT hks hkey hp w
       obtain ⟨es', kf', hrun, hn', hks', hr'⟩ : ∃ es' kf', (Builtin.delete_ #[t, t'] o.type #[.map (some b), a.eval y]).run P w = .ok (.tuple #[]) { w with heap := w.heap.setIfInBounds b (.map es' clock) } /\ es'.size = (ztw l key).length /\
           zfh (zhe T kt) (fun k => (zba (ztw l key) k).isSome) es' clock kf' /\ ∀ (i : Nat) e, es'[i]? = some e -> ∃ x, zba (ztw l key) (kf' i) = some x /\ R w.heap D μ x e.val := by
         simp only [zrg _ l hnd]
         rcases f3 with ⟨g1, g2, g3⟩ | ⟨j, x', g1, g2, g3, g4, g5⟩
         · have hne : ∀ i x', es[i]? = some x' -> ¬ kf i = key := by
             rintro i x' hx' q
             have := (hks.key i x' hx').2
             rw [q] at this
             exact absurd (this.symm.trans g1) (by simp)
           refine ⟨es, kf, ?_, by rw [zpj, g1]; simpa using hn, ⟨fun i x' hx' => ⟨(hks.key i x' hx').1, ?_⟩, fun k' hk' => hks.all k' ?_, hks.st⟩, fun i x' hx' => ?_⟩
           · simp [Builtin.delete_, run_underlying hu, MapKept.run_getObj_map hb, f1, g2, MapKept.run_setObj_map _ hb, Result.andThen]
           · simp only [if_neg (hne i x' hx')]; exact (hks.key i x' hx').2
           · by_cases h2 : k' = key
             · simp [h2] at hk'
             · simpa only [if_neg h2] using hk'
           · simp only [if_neg (hne i x' hx')]; exact hr i x' hx'
         · have hlt : j < es.size := (Array.getElem?_eq_some_iff.1 g3).1
           have hers : ∀ i : Nat, (es.eraseIdxIfInBounds j)[i]? = if i < j then es[i]? else es[i + 1]? := by
             intro i
             unfold Array.eraseIdxIfInBounds
             rw [dif_pos hlt, Array.getElem?_eraseIdx]
           have inj : ∀ i e, es[i]? = some e -> kf i = key -> i = j := by
             intro i e1 he1 q
             have k1 := (hks.key i e1 he1).1
             rw [q] at k1
             have k3 : e1.key = x'.key := by rw [g4]; exact k1.val hkey
             have hi2 : i < es.size := (Array.getElem?_eq_some_iff.1 he1).1
             have p1 : (es.toList.map (·.key))[i]? = some e1.key := by simp [he1]
             have p2 : (es.toList.map (·.key))[j]? = some x'.key := by simp [g3]
             rw [k3, <- p2] at p1
             exact (List.getElem?_inj (by simpa using hi2) hks.st.2.2).1 p1
           refine ⟨es.eraseIdxIfInBounds j, fun i => if i < j then kf i else kf (i + 1), ?_, ?_, ⟨fun i x2 hx2 => ?_, fun k' hk' => ?_, MapKept.stamped_erase hks.st j⟩, fun i x2 hx2 => ?_⟩
           · simp [Builtin.delete_, run_underlying hu, MapKept.run_getObj_map hb, f1, g5, MapKept.run_setObj_map _ hb, Result.andThen]
           · rw [zpj, g1, if_pos rfl, <- hn]
             unfold Array.eraseIdxIfInBounds
             rw [dif_pos hlt]
             simp
           · rw [hers] at hx2
             have fin : ∀ i' (e2 : MapEntry), es[i']? = some e2 -> i' ≠ j -> zxo (zhe T kt) e2.key (kf i') /\ (if kf i' = key then none else zba l (kf i')).isSome = true := by
               intro i' e2 he2 hne
               obtain ⟨q1, q2⟩ := hks.key i' e2 he2
               exact ⟨q1, by rw [if_neg (fun q => hne (inj i' e2 he2 q))]; exact q2⟩
             by_cases hij : i < j
             · rw [if_pos hij] at hx2; simp only [if_pos hij]; exact fin i x2 hx2 (by omega)
             · rw [if_neg hij] at hx2; simp only [if_neg hij]; exact fin (i + 1) x2 hx2 (by omega)
           · have h2 : ¬ k' = key := by rintro rfl; simp at hk'
             simp only [if_neg h2] at hk'
             obtain ⟨i, i1, i2⟩ := hks.all k' hk'
             have hij : i ≠ j := by rintro rfl; rw [g2] at i2; exact h2 i2.symm
             have hsz : (es.eraseIdxIfInBounds j).size = es.size - 1 := by
               unfold Array.eraseIdxIfInBounds
               rw [dif_pos hlt]
               simp
             rw [hsz]
             by_cases hlt' : i < j
             · exact ⟨i, by omega, by simp only [if_pos hlt']; exact i2⟩
             · exact ⟨i - 1, by omega, by simp only [if_neg (show ¬ i - 1 < j by omega)]; rw [show i - 1 + 1 = i by omega]; exact i2⟩
           · rw [hers] at hx2
             have fin : ∀ i' (e2 : MapEntry), es[i']? = some e2 -> i' ≠ j -> ∃ x, (if kf i' = key then none else zba l (kf i')) = some x /\ R w.heap D μ x e2.val := by
               intro i' e2 he2 hne
               rw [if_neg (fun q => hne (inj i' e2 he2 q))]
               exact hr i' e2 he2
             by_cases hij : i < j
             · rw [if_pos hij] at hx2; simp only [if_pos hij]; exact fin i x2 hx2 (by omega)
             · rw [if_neg hij] at hx2; simp only [if_neg hij]; exact fin (i + 1) x2 hx2 (by omega)
       have hblt : b < w.heap.size := (Array.getElem?_eq_some_iff.1 hb).1
       have run : (execOp a.eval o).run P w = .ok (.value (.tuple #[])) { w with heap := w.heap.setIfInBounds b (.map es' clock) } := by
         unfold execOp
         rw [e]
         simp [resolve, invoke, builtin, hum, hrun]
       intro K Q hK
       unfold Oper.wp
       rw [run]
       have h1 := h.turn (ob' := .mapl (zhe T kt) (ztw l key)) (w' := { w with heap := w.heap.setIfInBounds b (.map es' clock) }) hμ hg (by simp) trivial hic rfl rfl rfl (by simp) (fun k' hk' => by simp [Ne.symm hk'])
         (fun hD => ⟨es', clock, kf', by simp [hblt], hn', hks', (((zwl l).map Prod.fst).nodup hnd), fun i x' hx' => by
           obtain ⟨y', y1, y2⟩ := hr' i x' hx'
           exact ⟨y', y1, y2.mono hD (fun _ h => h) (fun _ _ h => h)⟩⟩)
       exact hK _ _ ⟨_, _, h1.put hd (.tup _ _ rfl (fun i x v hx => by simp at hx))⟩
     · trivial
   · trivial
 | [], ⟨_, hv⟩ => exact hv.elim
end
end Sy
end Go.Proofs.YtogpolfhcbgcbaaGreatDoor
