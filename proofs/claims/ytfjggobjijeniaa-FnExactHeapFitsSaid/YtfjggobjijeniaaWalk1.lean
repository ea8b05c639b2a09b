import Derived.WalkKit
import Derived.WalkLawsBesides
import Derived.RangeFuncNested
import Derived.RangeFuncLeaves
import Derived.OwnWalkIn
import Derived.OrdersIn
/-! A Hoare-like logic over `Code.wp`: contexts of facts on slots, a ghost read-only heap, owned blocks. -/
namespace Go.L
open Go Go.RowKit

abbrev Rho := Addr → Option Value
def Rho.le (r s : Rho) : Prop := ∀ a v, r a = some v → s a = some v
/-- What an object gives at an address: a cell, or (at a marked address) a map's entries. -/
def encMap (es : Array MapEntry) : Value := .tuple (es.map fun e => .tuple #[e.key, e.val])
def gc (o : Option Obj) (a : Addr) : Option Value :=
  match a.spot with
  | none => match o with | some (.cells c _ _) => c[a.off]? | _ => none
  | some _ => match o with | some (.map es _) => some (encMap es) | _ => none
def Rho.ok (r : Rho) (w : World) : Prop := ∀ a v, r a = some v → gc w.heap[a.block]? a = some v
theorem gc_lt {w : World} {a : Addr} {v : Value} (h : gc w.heap[a.block]? a = some v) : a.block < w.heap.size := by
  rcases Nat.lt_or_ge a.block w.heap.size with q | q
  · exact q
  · rw [Array.getElem?_eq_none q] at h
    unfold gc at h; split at h <;> cases h
theorem gc_cell {w : World} {b o : Nat} {v : Value} (h : gc w.heap[b]? ⟨b, o, none⟩ = some v) : w.cell? ⟨b, o, none⟩ = some v := by
  unfold gc at h
  unfold World.cell?
  simp only at h ⊢
  split at h
  · rename_i c e f hb; simp [hb, h]
  · cases h
theorem Rho.ok.cell {r : Rho} {w : World} (h : r.ok w) {b o : Nat} {v : Value} (e : r ⟨b, o, none⟩ = some v) : w.cell? ⟨b, o, none⟩ = some v := gc_cell (h _ _ e)
/-- Cells that may be written. -/
def Unf (w : World) (b : Nat) : Prop := ∀ cs ty fr, w.heap[b]? = some (.cells cs ty fr) → fr = (0, 0)
theorem Unf.same {w w' : World} {b : Nat} (h : Unf w b) (e : w'.heap[b]? = w.heap[b]?) : Unf w' b := fun cs ty fr k => h cs ty fr (e ▸ k)
/-- Numbers for numbers of the same kind, bools for bools. -/
def SameKind (v v' : Value) : Prop := (∃ k n n', v = .int k n ∧ v' = .int k n') ∨ ∃ b b', v = .bool b ∧ v' = .bool b'
theorem SameKind.trans {a b c : Value} (h : SameKind a b) (k : SameKind b c) : SameKind a c := by
  rcases h with ⟨k1, n, n', rfl, rfl⟩ | ⟨x, y, rfl, rfl⟩
  · rcases k with ⟨k2, m, m', e, rfl⟩ | ⟨x, y, e, _⟩
    · cases e; exact .inl ⟨_, _, _, rfl, rfl⟩
    · cases e
  · rcases k with ⟨k2, m, m', e, rfl⟩ | ⟨x', y', e, rfl⟩
    · cases e
    · cases e; exact .inr ⟨_, _, rfl, rfl⟩
/-- Grown, but for cells of K, which may hold others of their kind. -/
def Rho.leK (K : Addr → Prop) (r s : Rho) : Prop := ∀ a v, r a = some v → ∃ v', s a = some v' ∧ (v' = v ∨ (K a ∧ SameKind v v'))
theorem Rho.leK.trans_le {K : Addr → Prop} {r s t : Rho} (h : r.leK K s) (k : s.le t) : r.leK K t := fun a v e => let ⟨v', h1, h2⟩ := h a v e; ⟨v', k a v' h1, h2⟩
theorem Rho.leK.trans {K : Addr → Prop} {r s t : Rho} (h : r.leK K s) (k : s.leK K t) : r.leK K t := fun a v e => by
  obtain ⟨v1, h1, h2⟩ := h a v e
  obtain ⟨v2, k1, k2⟩ := k a v1 h1
  refine ⟨v2, k1, ?_⟩
  rcases h2 with rfl | ⟨h2, h3⟩
  · exact k2
  · rcases k2 with rfl | ⟨_, k3⟩
    · exact .inr ⟨h2, h3⟩
    · exact .inr ⟨h2, h3.trans k3⟩
theorem Rho.leK_refl (K : Addr → Prop) (r : Rho) : r.leK K r := fun _ v e => ⟨v, e, .inl rfl⟩
theorem Rho.le.leK {K : Addr → Prop} {r s : Rho} (h : r.le s) : r.leK K s := fun a v e => ⟨v, h a v e, .inl rfl⟩
theorem Rho.leK.le {r s : Rho} (h : r.leK (fun _ => False) s) : r.le s := fun a v e => by
  obtain ⟨v', h1, h2 | ⟨h2, _⟩⟩ := h a v e
  · rw [← h2]; exact h1
  · exact h2.elim
/-- What r has beyond c. -/
def Rho.minus (r c : Rho) : Rho := fun a => if c a = none then r a else none
theorem Rho.minus_le (r c : Rho) : (r.minus c).le r := fun a v e => by
  unfold Rho.minus at e; split at e
  · exact e
  · cases e
theorem Rho.minus_mono {r s c : Rho} (h : r.le s) : (r.minus c).le (s.minus c) := fun a v e => by
  unfold Rho.minus at e ⊢; split at e
  · rename_i hc; rw [if_pos hc]; exact h _ _ e
  · cases e
theorem Rho.minus_anti {r c d : Rho} (h : c.le d) : (r.minus d).le (r.minus c) := fun a v e => by
  unfold Rho.minus at e ⊢; split at e
  · rename_i hd
    rw [if_pos]; exact e
    cases hc : c a with
    | none => rfl
    | some x => rw [h _ _ hc] at hd; cases hd
  · cases e
theorem Rho.le_refl (r : Rho) : r.le r := fun _ _ h => h
theorem Rho.le_trans {r s t : Rho} (h : r.le s) (k : s.le t) : r.le t := fun a v x => k a v (h a v x)

/-- An assertion on a value, stable under growth of the read-only heap. -/
structure A where
  p : Rho → Value → Prop
  mono : ∀ {r s : Rho} {v : Value}, r.le s → p r v → p s v

def All2 (r : Rho) : List A → List Value → Prop
  | [], [] => True
  | c :: cs, v :: vs => c.p r v ∧ All2 r cs vs
  | _, _ => False
theorem All2.mono {r s : Rho} (h : r.le s) : ∀ {cs : List A} {vs : List Value}, All2 r cs vs → All2 s cs vs
  | [], [], _ => trivial
  | c :: _, _ :: _, x => ⟨c.mono h x.1, All2.mono h x.2⟩
theorem All2.length {r : Rho} : ∀ {cs : List A} {vs : List Value}, All2 r cs vs → cs.length = vs.length
  | [], [], _ => rfl
  | _ :: _, _ :: _, x => by simp [All2.length x.2]
theorem All2.get {r : Rho} : ∀ {cs : List A} {vs : List Value} (_ : All2 r cs vs) (i : Nat) (c : A), cs[i]? = some c → ∃ v, vs[i]? = some v ∧ c.p r v
  | c :: _, v :: _, x, 0, c', h => by simp at h; subst h; exact ⟨v, by simp, x.1⟩
  | _ :: _, _ :: _, x, i + 1, c', h => by simpa using All2.get x.2 i c' (by simpa using h)
  | [], [], _, i, c', h => by simp at h
theorem All2.append {r : Rho} : ∀ {cs ds : List A} {vs us : List Value}, All2 r cs vs → All2 r ds us → All2 r (cs ++ ds) (vs ++ us)
  | [], _, [], _, _, h => by simpa using h
  | _ :: _, _, _ :: _, _, x, h => ⟨x.1, All2.append x.2 h⟩
theorem All2.of_get {r : Rho} : ∀ {cs : List A} {vs : List Value}, cs.length = vs.length → (∀ (i : Nat) c v, cs[i]? = some c → vs[i]? = some v → c.p r v) → All2 r cs vs
  | [], [], _, _ => trivial
  | c :: cs, v :: vs, hl, h => ⟨h 0 c v (by simp) (by simp), All2.of_get (by simpa using hl) fun i c' v' hc hv => h (i + 1) c' v' (by simpa using hc) (by simpa using hv)⟩
  | [], _ :: _, hl, _ => by simp at hl
  | _ :: _, [], hl, _ => by simp at hl
theorem All2.split {r : Rho} : ∀ {cs ds : List A} {vs : List Value}, All2 r (cs ++ ds) vs → All2 r cs (vs.take cs.length) ∧ All2 r ds (vs.drop cs.length)
  | [], _, _, h => ⟨by simp [All2], by simpa using h⟩
  | _ :: _, _, _ :: _, h => by
    obtain ⟨h0, h1⟩ := h
    obtain ⟨h2, h3⟩ := All2.split h1
    exact ⟨⟨h0, by simpa using h2⟩, by simpa using h3⟩

namespace A
/-- The very value. -/
def val (v : Value) : A := ⟨fun _ x => x = v, fun _ h => h⟩
abbrev int (n : Int) : A := val (.int .i64 n)
abbrev bool (b : Bool) : A := val (.bool b)
abbrev u8 (n : Int) : A := val (.int .u8 n)
abbrev str (s : ByteArray) : A := val (.string s)
/-- Anything. -/
def any : A := ⟨fun _ _ => True, fun _ h => h⟩
def tup (l : List A) : A := ⟨fun r x => ∃ vs : Array Value, x = .tuple vs ∧ All2 r l vs.toList, fun h ⟨vs, e, k⟩ => ⟨vs, e, k.mono h⟩⟩
def agg (l : List A) : A := ⟨fun r x => ∃ vs : Array Value, x = .agg vs ∧ All2 r l vs.toList, fun h ⟨vs, e, k⟩ => ⟨vs, e, k.mono h⟩⟩
/-- The cells from an address on. -/
def CellsAt (r : Rho) (b o : Nat) (l : List A) : Prop := ∀ (i : Nat) c, l[i]? = some c → ∃ x, r ⟨b, o + i, none⟩ = some x ∧ c.p r x
theorem CellsAt.mono {r s : Rho} {b o : Nat} {l : List A} (h : r.le s) (k : CellsAt r b o l) : CellsAt s b o l :=
  fun i c e => let ⟨x, hx, hc⟩ := k i c e; ⟨x, h _ _ hx, c.mono h hc⟩
/-- A pointer to read-only cells. -/
def pt (l : List A) : A := ⟨fun r x => ∃ b o, x = .pointer (some ⟨b, o, none⟩) ∧ CellsAt r b o l, fun h ⟨b, o, e, k⟩ => ⟨b, o, e, k.mono h⟩⟩
/-- A slice whose elements take k cells each and read as f of the list's. -/
def sl {T : Type} (k : Nat) (f : T → List A) (L : List T) : A :=
  ⟨fun r x => ∃ a len cap, x = .slice a len cap ∧ len = L.length ∧ len ≤ cap ∧ cap ≤ maxLen ∧ (L ≠ [] → ∃ b o, a = some ⟨b, o, none⟩ ∧ ∀ (i : Nat) y, L[i]? = some y → CellsAt r b (o + i * k) (f y)),
   fun h ⟨a, len, cap, e, h1, h2, h3, k⟩ => ⟨a, len, cap, e, h1, h2, h3, fun hn => let ⟨b, o, ea, q⟩ := k hn; ⟨b, o, ea, fun i y hy => (q i y hy).mono h⟩⟩⟩
def ex {T : Type} (g : T → A) : A := ⟨fun r x => ∃ t, (g t).p r x, fun h ⟨t, k⟩ => ⟨t, (g t).mono h k⟩⟩
def st (q : Prop) (x : A) : A := ⟨fun r v => q ∧ x.p r v, fun h k => ⟨k.1, x.mono h k.2⟩⟩
/-- It held of an earlier part of the ghost heap. -/
def at_ (c : Rho) (x : A) : A := ⟨fun r v => c.le r ∧ x.p c v, fun h k => ⟨Rho.le_trans k.1 h, k.2⟩⟩
/-- It holds of what has come since. -/
def nw (c : Rho) (x : A) : A := ⟨fun r v => c.le r ∧ x.p (r.minus c) v, fun h k => ⟨Rho.le_trans k.1 h, x.mono (Rho.minus_mono h) k.2⟩⟩
def both (x y : A) : A := ⟨fun r v => x.p r v ∧ y.p r v, fun h k => ⟨x.mono h k.1, y.mono h k.2⟩⟩
end A

/-- From (r, w) to (s, w'): the read-only heap has grown by new cells alone, the world by new blocks alone. -/
structure Grow (r : Rho) (w : World) (s : Rho) (w' : World) : Prop where
  le : r.le s
  ok : s.ok w'
  fresh : ∀ a v, s a = some v → r a = some v ∨ (w.heap.size ≤ a.block ∧ Unf w' a.block)
  below : Below w.heap.size w w'

theorem Grow.refl {r : Rho} {w : World} (h : r.ok w) : Grow r w r w := ⟨r.le_refl, h, fun _ _ k => .inl k, Below.refl _ _⟩
theorem Rho.ok_lt {r : Rho} {w : World} (h : r.ok w) {a : Addr} {v : Value} (e : r a = some v) : a.block < w.heap.size := gc_lt (h a v e)
theorem Grow.trans {r s t : Rho} {w w1 w2 : World} (h : Grow r w s w1) (k : Grow s w1 t w2) : Grow r w t w2 :=
  ⟨Rho.le_trans h.le k.le, k.ok, fun a v e => (k.fresh a v e).elim (fun e1 => (h.fresh a v e1).elim .inl fun q => .inr ⟨q.1, q.2.same (k.below.block _ (Rho.ok_lt h.ok e1))⟩) fun q => .inr ⟨Nat.le_trans h.below.size q.1, q.2⟩, h.below.trans (k.below.mono h.below.size)⟩
/-- The world has grown, the ghost heap stays. -/
theorem Grow.same {r : Rho} {w w' : World} (h : r.ok w) (hb : Below w.heap.size w w') : Grow r w r w' :=
  ⟨r.le_refl, fun a v e => by rw [hb.block _ (Rho.ok_lt h e)]; exact h a v e, fun _ _ k => .inl k, hb⟩

abbrev Own := List (Nat × TypeId × List A)
/-- An owned block: outside the ghost heap, its cells known. -/
def OwnAt (r : Rho) (w : World) (b : Nat) (ty : TypeId) (cells : List A) : Prop :=
  (∀ o s, r ⟨b, o, s⟩ = none) ∧ ∃ vs, w.heap[b]? = some (.cells vs ty (0, 0)) ∧ All2 r cells vs.toList
def OwnOk (r : Rho) (w : World) (own : Own) : Prop := ∀ x ∈ own, OwnAt r w x.1 x.2.1 x.2.2
theorem OwnAt.lt {r : Rho} {w : World} {b : Nat} {ty : TypeId} {cells : List A} (h : OwnAt r w b ty cells) : b < w.heap.size := by
  obtain ⟨_, vs, e, _⟩ := h
  exact (Array.getElem?_eq_some_iff.1 e).1
theorem OwnAt.grow {r s : Rho} {w w' : World} {b : Nat} {ty : TypeId} {cells : List A} (h : OwnAt r w b ty cells) (g : Grow r w s w') : OwnAt s w' b ty cells := by
  have hlt := h.lt
  obtain ⟨h1, vs, e, k⟩ := h
  refine ⟨fun o sp => ?_, vs, by rw [g.below.block b hlt]; exact e, k.mono g.le⟩
  cases hs : s ⟨b, o, sp⟩ with
  | none => rfl
  | some v =>
    rcases g.fresh _ _ hs with q | q
    · rw [h1] at q; cases q
    · exact absurd q.1 (by simp; omega)
theorem OwnOk.grow {r s : Rho} {w w' : World} {own : Own} (h : OwnOk r w own) (g : Grow r w s w') : OwnOk s w' own := fun x hx => (h x hx).grow g

/-- What an operation that only reads, computes, makes new read-only memory or calls such a function comes to. -/
def Good (P : Program) (r : Rho) (w : World) (t : A) : Result Next → Prop
  | .ok (.value v) w' => ∃ s, Grow r w s w' ∧ t.p s v
  | .ok (.enter f args) w' => w' = w ∧ Calls P f args w fun e w'' => ∃ v s, e = .returned v ∧ Grow r w s w'' ∧ t.p s v
  | _ => False

/-- One such operation, from facts on its operands. -/
def OpU (P : Program) (own : Own) (need : List (Operand × A)) (o : Oper) (t : A) : Prop :=
  ∀ (r : Rho) (w : World) (a : Act), r.ok w → OwnOk r w own → (∀ x ∈ need, x.2.p r (a.eval x.1)) → Good P r w t ((execOp a.eval o).run P w)

/-- A contract of a function that only reads, computes and makes new read-only memory. -/
def FnC (P : Program) (f : FuncId) (args : List A) (t : A) : Prop :=
  ∀ (r : Rho) (w : World) (vs : List Value), r.ok w → All2 r args vs → Calls P f vs.toArray w fun e w' => ∃ v s, e = .returned v ∧ Grow r w s w' ∧ t.p s v

/-- A context: facts on slots (each under a condition), owned blocks, slices with room (element type and size beside). -/
structure Ctx where
  sl : List (Nat × Bool × A)
  own : Own := []
  rooms : List (Value × Nat × Nat) := []
  /-- maps of the function's own: block, entries in their order -/
  maps : List (Nat × List (Value × A)) := []
  /-- other objects, as they lie -/
  objs : List (Nat × Obj) := []
  /-- earlier parts of the ghost heap -/
  cps : List Rho := []

def look : List (Nat × Bool × A) → Nat → Option (Bool × A)
  | [], _ => none
  | (t, c, x) :: l, s => if t == s then some (c, x) else look l s

def Ctx.set (g : Ctx) (s : Nat) (x : A) : Ctx := { g with sl := (s, true, x) :: g.sl }
def Ctx.setc (g : Ctx) (s : Nat) (c : Bool) (x : A) : Ctx := { g with sl := (s, c, x) :: g.sl }

structure Env where
  P : Program
  n : Nat
  w0 : World
  r0 : Rho
  X : Nat → Prop
  /-- the round that the frame is of -/
  rnd : Option Nat := none
  /-- a frame that defers nothing -/
  plain : Bool := false
  /-- cells that came in and may hold others of their kind -/
  K : Addr → Prop := fun _ => False
/-- A block that may be written. -/
def Env.base (E : Env) (b : Nat) : Prop := E.X b ∨ E.w0.heap.size ≤ b
def Env.low (E : Env) (b : Nat) : Prop := E.w0.heap.size ≤ b ∧ E.plain = false

/-- The fence that lets all in. -/
def fz (ro : Option Nat) : Fence := { fn := fun _ => True, depth := none, alive := false, round := ro }
theorem calls_fz {n : Nat} {P : Program} {f : FuncId} {args : Array Value} {w : World} {R : Ending → World → Prop} {ro : Option Nat} (h : Calls P f args w R) : CallsIn (fz ro) n P f args w R := by
  have k : CallsIn Fence.wide n P f args w R := callsIn_wide.2 h
  cases ro with
  | none => exact k
  | some l => exact k.inRound l

/-- The slice's own block, where it has one. -/
def roomBlock : Value → Option Nat
  | .slice (some a) _ _ => some a.block
  | _ => none
def RoomOk (r : Rho) (w : World) (x : Value × Nat × Nat) : Prop :=
  match x.1 with
  | .slice none n c => n = 0 ∧ c = 0
  | .slice (some a) n c => a.off = 0 ∧ a.spot = none ∧ n ≤ c ∧ c ≤ maxLen ∧ (∃ vs, w.heap[a.block]? = some (.cells vs x.2.1 (0, 0)) ∧ vs.size = c * x.2.2) ∧ ∀ o s, n * x.2.2 ≤ o → r ⟨a.block, o, s⟩ = none
  | _ => False

/-- A map: its entries. -/
def MapAt (r : Rho) (w : World) (b : Nat) (es : List (Value × A)) : Prop :=
  ∃ arr clock, w.heap[b]? = some (.map arr clock) ∧ arr.toList.map (·.key) = es.map (·.1) ∧ All2 r (es.map (·.2)) (arr.toList.map (·.val))
def isMapO : Obj → Bool
  | .map .. => true
  | _ => false
/-- Maps of one's own, other objects as they lie. -/
structure MapsOk (E : Env) (r : Rho) (w : World) (l : List (Nat × List (Value × A))) (os : List (Nat × Obj)) : Prop where
  at_ : ∀ x ∈ l, MapAt r w x.1 x.2
  un : ∀ x ∈ l, ∀ o s, r ⟨x.1, o, s⟩ = none
  base : ∀ x ∈ l, E.base x.1
  nodup : (l.map (·.1)).Nodup
  obj : ∀ x ∈ os, w.heap[x.1]? = some x.2 ∧ x.2.isCells = false ∧ E.w0.heap.size ≤ x.1 ∧ isMapO x.2 = false
  objN : (os.map (·.1)).Nodup
theorem MapsOk.nil {E : Env} {r : Rho} {w : World} : MapsOk E r w [] [] := ⟨fun _ h => (by cases h), fun _ h => (by cases h), fun _ h => (by cases h), List.nodup_nil, fun _ h => (by cases h), List.nodup_nil⟩
theorem MapAt.lt {r : Rho} {w : World} {b : Nat} {es : List (Value × A)} (h : MapAt r w b es) : b < w.heap.size := by
  obtain ⟨arr, cl, e, _⟩ := h; exact (Array.getElem?_eq_some_iff.1 e).1
theorem MapsOk.stay {E : Env} {r r' : Rho} {w w' : World} {l : List (Nat × List (Value × A))} {os : List (Nat × Obj)} (h : MapsOk E r w l os) (hr : r.le r') (hf : ∀ x ∈ l, ∀ o s, r' ⟨x.1, o, s⟩ = none) (hw : ∀ (b : Nat) (o : Obj), o.isCells = false → w.heap[b]? = some o → w'.heap[b]? = some o) : MapsOk E r' w' l os :=
  ⟨fun x hx => let ⟨arr, cl, h1, h2, h3⟩ := h.at_ x hx; ⟨arr, cl, hw _ _ rfl h1, h2, h3.mono hr⟩, hf, h.base, h.nodup, fun x hx => let ⟨h1, h2, h3⟩ := h.obj x hx; ⟨hw _ _ h2 h1, h2, h3⟩, h.objN⟩
theorem MapsOk.grow {E : Env} {r s : Rho} {w w' : World} {l : List (Nat × List (Value × A))} {os : List (Nat × Obj)} (h : MapsOk E r w l os) (g : Grow r w s w') : MapsOk E s w' l os :=
  h.stay g.le (fun x hx o sp => by
    cases hs : s ⟨x.1, o, sp⟩ with
    | none => rfl
    | some v =>
      rcases g.fresh _ _ hs with q | q
      · rw [h.un x hx] at q; cases q
      · exact absurd q.1 (by have := (h.at_ x hx).lt; simp; omega)) fun b o _ hb => by rw [g.below.block b (Array.getElem?_eq_some_iff.1 hb).1]; exact hb

structure HoldsAt (E : Env) (g : Ctx) (r : Rho) (a : Act) (w : World) : Prop where
  le : E.r0.leK E.K r
  cps : ∀ c ∈ g.cps, c.le r
  ok : r.ok w
  fresh : ∀ x v, r x = some v → ((∃ v0, E.r0 x = some v0) ∧ ¬ E.K x) ∨ (E.base x.block ∧ Unf w x.block)
  size : E.w0.heap.size ≤ w.heap.size
  block : ∀ k, k < E.w0.heap.size → ¬ E.X k → w.heap[k]? = E.w0.heap[k]?
  unf : ∀ b, b < E.w0.heap.size → Unf E.w0 b → Unf w b
  os : w.os = E.w0.os
  tape : w.tape = E.w0.tape
  output : w.output = E.w0.output
  slots : ∀ s c x, look g.sl s = some (c, x) → (c = true → x.p r (a.tmps.getD s undef)) ∧ (c = false → a.tmps.getD s undef = undef)
  own : OwnOk r w g.own
  ownB : ∀ x ∈ g.own, E.base x.1
  nodup : (g.own.map (·.1)).Nodup
  room : ∀ x ∈ g.rooms, RoomOk r w x
  roomB : ∀ x ∈ g.rooms, ∀ b, roomBlock x.1 = some b → E.base b ∧ b ∉ g.own.map (·.1)
  roomN : (g.rooms.filterMap fun x => roomBlock x.1).Nodup
  mp : MapsOk E r w g.maps g.objs

/-- The marks of the ranges over functions that the activation has been through: their blocks hold no deferred call. -/
def Marks (E : Env) (w : World) : List Deferred → Prop
  | [] => True
  | d :: l => (∃ b, d = { target := .collected b, args := #[] } ∧ E.low b ∧ w.heap[b]? = some (.deferred (some [])) ∧ ∀ d' ∈ l, d' ≠ d) ∧ Marks E w l
def Holds (E : Env) (g : Ctx) (a : Act) (w : World) : Prop := a.tmps.size = E.n ∧ Marks E w a.defers ∧ ∃ r, HoldsAt E g r a w

def Fin (E : Env) (g : Ctx) (e : Exit) (Q : Exit → Act → World → Prop) : Prop := ∀ a w, Holds E g a w → Q e a w
def W (E : Env) (c : Code) (g : Ctx) (Q : Exit → Act → World → Prop) : Prop := ∀ a w, Holds E g a w → c.wpIn (fz E.rnd) 9 E.P Q a w
def WL (E : Env) (ops : Array Oper) (l : List Oper) (g : Ctx) (Q : Exit → Act → World → Prop) : Prop := ∀ a w, Holds E g a w → wpListIn (fz E.rnd) 9 E.P ops Q l a w

theorem least {p : Nat → Prop} (h : ∃ n, p n) : ∃ n, p n ∧ ∀ k, p k → n ≤ k := by
  obtain ⟨n, hn⟩ := h
  induction n using Nat.strongRecOn with
  | _ n ih =>
    by_cases hk : ∃ k, k < n ∧ p k
    · obtain ⟨k, hlt, hp⟩ := hk; exact ih k hlt hp
    · exact ⟨n, hn, fun k hp => Nat.le_of_not_lt fun hlt => hk ⟨k, hlt, hp⟩⟩

section rules
variable {E : Env} {g : Ctx} {Q : Exit → Act → World → Prop}
theorem W_skip (h : Fin E g .normal Q) : W E .skip g Q := fun a w k => wpIn_skip (h a w k)
theorem W_exit {id : Nat} (h : Fin E g (.exit id) Q) : W E (.exit id) g Q := fun a w k => wpIn_exit (h a w k)
theorem W_ret (h : Fin E g .ret Q) : W E .ret g Q := fun a w k => wpIn_ret (h a w k)
theorem W_seq {x y : Code} (h : W E x g (Exit.then (y.wpIn (fz E.rnd) 9 E.P Q) Q)) : W E (.seq x y) g Q := fun a w k => wpIn_seq (h a w k)
theorem W_block {id : Nat} {c : Code} (h : W E c g (Exit.inBlock id Q)) : W E (.block id c) g Q := fun a w k => wpIn_block (h a w k)
theorem Fin_then {y : Code} (h : W E y g Q) : Fin E g .normal (Exit.then (y.wpIn (fz E.rnd) 9 E.P Q) Q) := h
theorem Fin_then_exit {id : Nat} {N : Act → World → Prop} (h : Fin E g (.exit id) Q) : Fin E g (.exit id) (Exit.then N Q) := h
theorem Fin_then_ret {N : Act → World → Prop} (h : Fin E g .ret Q) : Fin E g .ret (Exit.then N Q) := h
theorem Fin_block {id : Nat} (h : Fin E g .normal Q) : Fin E g .normal (Exit.inBlock id Q) := h
theorem Fin_block_ret {id : Nat} (h : Fin E g .ret Q) : Fin E g .ret (Exit.inBlock id Q) := h
theorem Fin_block_exit {id : Nat} (h : Fin E g .normal Q) : Fin E g (.exit id) (Exit.inBlock id Q) := fun a w k => by
  simp only [Exit.inBlock, if_true]; exact h a w k
theorem Fin_block_past {id id' : Nat} (hne : (id' == id) = false) (h : Fin E g (.exit id') Q) : Fin E g (.exit id') (Exit.inBlock id Q) := fun a w k => by
  have : ¬ id' = id := by simpa using hne
  simp only [Exit.inBlock, this, if_false]; exact h a w k
theorem W_cond {s : Nat} {x y : Code} {b : Bool} (hs : look g.sl s = some (true, A.bool b)) (ht : b = true → W E x g Q) (hf : b = false → W E y g Q) :
    W E (.cond (.tmp s) x y) g Q := fun a w k => by
  obtain ⟨h1, h2, r, H⟩ := k
  have e : a.eval (.tmp s) = .bool b := (H.slots s true _ hs).1 rfl
  exact wpIn_cond_split e (fun q => ht q a w ⟨h1, h2, r, H⟩) (fun q => hf q a w ⟨h1, h2, r, H⟩)
theorem W_region {id : Nat} {l : List Oper} (h : WL E l.toArray l g Q) : W E (.region id l.toArray false) g Q := fun a w k => wpIn_region_lit (h a w k)
theorem WL_nil {ops : Array Oper} (h : Fin E g .normal Q) : WL E ops [] g Q := fun a w k => wpListIn_nil (h a w k)
/-- Fewer facts. -/
theorem W_weaken {c : Code} {g' : Ctx} (hs : ∀ a w, Holds E g a w → Holds E g' a w) (h : W E c g' Q) : W E c g Q := fun a w k => h a w (hs a w k)

/-- A loop, with a ghost variable. -/
theorem W_loop {c : Code} {T : Type} (q : T → Prop) (I : T → Ctx) (m : T → Nat) (h0 : ∃ x, q x ∧ ∀ a w, Holds E g a w → Holds E (I x) a w)
    (round : ∀ x, q x → W E c (I x) (Exit.then (fun a w => ∃ x', q x' ∧ m x' < m x ∧ Holds E (I x') a w) Q)) : W E (.loop c) g Q := by
  intro a w k
  obtain ⟨x0, hq0, h0⟩ := h0
  have key : ∀ x, q x → ∀ a w, Holds E (I x) a w → (Code.loop c).wpIn (fz E.rnd) 9 E.P Q a w := by
    classical
    let low (a : Act) (w : World) : Nat := if h : ∃ n, ∃ x, q x ∧ m x = n ∧ Holds E (I x) a w then Classical.choose (least h) else 0
    have low_le : ∀ x a w, q x → Holds E (I x) a w → low a w ≤ m x := fun x a w hq hx => by
      have hex : ∃ n, ∃ x, q x ∧ m x = n ∧ Holds E (I x) a w := ⟨m x, x, hq, rfl, hx⟩
      simp only [low, hex, dif_pos]
      exact (Classical.choose_spec (least hex)).2 _ ⟨x, hq, rfl, hx⟩
    have low_mem : ∀ x a w, q x → Holds E (I x) a w → ∃ y, q y ∧ m y = low a w ∧ Holds E (I y) a w := fun x a w hq hx => by
      have hex : ∃ n, ∃ x, q x ∧ m x = n ∧ Holds E (I x) a w := ⟨m x, x, hq, rfl, hx⟩
      have := (Classical.choose_spec (least hex)).1
      simp only [low, hex, dif_pos]
      exact this
    intro x hq a w hx
    refine wpIn_loop (fun a w => ∃ x, q x ∧ Holds E (I x) a w) low ⟨x, hq, hx⟩ ?_
    rintro a w ⟨x, hq, hx⟩
    obtain ⟨y, hqy, hy, hI⟩ := low_mem x a w hq hx
    refine wpIn_mono (round y hqy a w hI) ?_
    intro e a' w' k
    cases e with
    | normal =>
      obtain ⟨x', hq', hlt, hx'⟩ := k
      exact ⟨⟨x', hq', hx'⟩, by have := low_le x' a' w' hq' hx'; omega⟩
    | _ => exact k
  exact key x0 hq0 a w (h0 a w k)

/-- Each fact of the second list follows from the first. -/
def Facts (av : List (Nat × Bool × A)) : List (Nat × Bool × A) → Prop
  | [] => True
  | (s, c, t) :: l => (c = true ∧ ∃ u, look av s = some (true, u) ∧ ∀ r v, u.p r v → t.p r v) ∧ Facts av l
theorem Facts.use {av : List (Nat × Bool × A)} {s : Nat} {c : Bool} {t : A} : ∀ {l : List (Nat × Bool × A)}, Facts av l → look l s = some (c, t) → c = true ∧ ∃ u, look av s = some (true, u) ∧ ∀ r v, u.p r v → t.p r v
  | (s', c', t') :: l, h, e => by
    unfold look at e
    by_cases q : s' = s
    · subst q; simp at e; obtain ⟨rfl, rfl⟩ := e; exact h.1
    · rw [if_neg (by simpa using q)] at e; exact Facts.use h.2 e
/-- Fewer slots' facts, the rest as it is. -/
theorem Holds.facts {g' : Ctx} {a : Act} {w : World} (h : Holds E g a w) (hs : Facts g.sl g'.sl) (ho : g'.own = g.own) (hr : g'.rooms = g.rooms) (hm : g'.maps = g.maps) (hob : g'.objs = g.objs) (hc : ∀ c ∈ g'.cps, c ∈ g.cps) : Holds E g' a w := by
  obtain ⟨h1, h2, r, H⟩ := h
  refine ⟨h1, h2, r, ?_⟩
  obtain ⟨sl', own', rooms', maps', objs', cps'⟩ := g'
  simp only at ho hr hs hm hob hc
  subst ho; subst hr; subst hm; subst hob
  have hsl : ∀ s c x, look sl' s = some (c, x) → (c = true → x.p r (a.tmps.getD s undef)) ∧ (c = false → a.tmps.getD s undef = undef) := by
    intro s c t e
    obtain ⟨rfl, u, hu, k⟩ := hs.use e
    exact ⟨fun _ => k _ _ ((H.slots s true u hu).1 rfl), fun h => by cases h⟩
  exact { H with slots := hsl, cps := fun c h => H.cps c (hc c h) }

/-- The facts on some slots. -/
def keep (av : List (Nat × Bool × A)) : List Nat → List (Nat × Bool × A)
  | [] => []
  | s :: l => match look av s with
    | some (true, t) => (s, true, t) :: keep av l
    | _ => keep av l
def Kept (av av' : List (Nat × Bool × A)) : List Nat → Prop
  | [] => True
  | s :: l => look av' s = look av s ∧ Kept av av' l
theorem Facts.keep {av av' : List (Nat × Bool × A)} : ∀ {l : List Nat}, Kept av av' l → Facts av' (keep av l)
  | [], _ => trivial
  | s :: l, h => by
    unfold L.keep
    split
    · rename_i t e
      exact ⟨⟨rfl, t, h.1.trans e, fun _ _ k => k⟩, Facts.keep h.2⟩
    · exact Facts.keep h.2
theorem Kept.self {av : List (Nat × Bool × A)} : ∀ {l : List Nat}, Kept av av l
  | [] => trivial
  | _ :: _ => ⟨rfl, Kept.self⟩
theorem Facts.append {av : List (Nat × Bool × A)} : ∀ {l l' : List (Nat × Bool × A)}, Facts av l → Facts av l' → Facts av (l ++ l')
  | [], _, _, h => h
  | _ :: _, _, h, k => ⟨h.1, Facts.append h.2 k⟩

/-- A loop that changes no owned block: J says what holds of the slots that it writes; the slots ks stay as they are. -/
theorem W_loopk {c : Code} {T : Type} (ks : List Nat) (q : T → Prop) (J : T → List (Nat × Bool × A)) (m : T → Nat) (x0 : T) (hq : q x0) (h0 : Facts g.sl (J x0))
    (round : ∀ x, q x → W E c { g with sl := J x ++ keep g.sl ks } (Exit.then (fun a w => ∃ x', q x' ∧ m x' < m x ∧ Holds E { g with sl := J x' ++ keep g.sl ks } a w) Q)) : W E (.loop c) g Q :=
  W_loop q (fun x => { g with sl := J x ++ keep g.sl ks }) m ⟨x0, hq, fun _ _ h => h.facts (Facts.append h0 (Facts.keep Kept.self)) rfl rfl rfl rfl (fun _ h => h)⟩ round
theorem Fin_back {T : Type} {ks : List Nat} {q : T → Prop} {J : T → List (Nat × Bool × A)} {m : T → Nat} {x : T} {g' : Ctx} {N : Exit → Act → World → Prop} (x' : T) (hq : q x') (hm : m x' < m x) (h : Facts g'.sl (J x'))
    (hk : Kept g.sl g'.sl ks) (ho : g.own = g'.own) (hr : g.rooms = g'.rooms) (hmp : g.maps = g'.maps := by rfl) (hob : g.objs = g'.objs := by rfl) (hc : g.cps = g'.cps := by rfl) :
    Fin E g' .normal (Exit.then (fun a w => ∃ x', q x' ∧ m x' < m x ∧ Holds E { g with sl := J x' ++ keep g.sl ks } a w) N) :=
  fun _ _ H => ⟨x', hq, hm, H.facts (Facts.append h (Facts.keep hk)) ho hr hmp hob (fun c h => hc ▸ h)⟩
end rules
/-- Conditions as propositions: one name for all rules. -/
theorem bl : (∀ (p : Prop) [Decidable p], (decide p = true) = p) ∧ (∀ (p : Prop) [Decidable p], (decide p = false) = ¬p) ∧ (∀ a b : Bool, ((a || b) = true) = (a = true ∨ b = true)) ∧ (∀ a b : Bool, ((a && b) = true) = (a = true ∧ b = true)) ∧
    (∀ a b : Bool, ((a || b) = false) = (a = false ∧ b = false)) ∧ (∀ a b : Bool, ((a && b) = false) = (a = true → b = false)) ∧ (∀ a : Bool, ((!a) = true) = (a = false)) ∧ (∀ a : Bool, ((!a) = false) = (a = true)) ∧ (∀ a : Bool, (¬(a = true)) = (a = false)) ∧ (∀ a : Bool, (¬(a = false)) = (a = true)) ∧
    (∀ a b : Int, (¬(a < b)) = (b ≤ a)) ∧ (∀ a b : Int, (¬(a ≤ b)) = (b < a)) ∧ (∀ a : Bool, (true && a) = a) ∧ (∀ a : Bool, (a && true) = a) ∧ (∀ a : Bool, (false || a) = a) ∧ (∀ a : Bool, (a || false) = a) ∧ (∀ m n : Nat, ((m : Int) = (n : Int)) = (m = n)) := by
  refine ⟨fun p _ => by simp, fun p _ => by simp, fun a b => by simp, fun a b => by simp, fun a b => by simp, fun a b => by simp, fun a => by simp, fun a => by simp, fun a => by simp, fun a => by simp, fun a b => by simp, fun a b => by simp, fun a => by simp, fun a => by simp, fun a => by simp, fun a => by simp, fun m n => by simp; omega⟩
end Go.L
/-! Single operations, sequences of operations, regions that draw their order. -/
namespace Go.L
open Go Go.RowKit

/-- needs: (under which condition, operand, assertion) -/
abbrev Need := List (Bool × Operand × A)

def Read1 (av : List (Nat × Bool × A)) (c : Bool) (x : Bool × Operand × A) : Prop :=
  match x.2.1 with
  | .tmp s => ∃ cs, look av s = some (cs, x.2.2) ∧ (c = true → x.1 = true → cs = true)
  | y => ∀ (r : Rho) (a : Act), x.2.2.p r (a.eval y)
def Reads (av : List (Nat × Bool × A)) (c : Bool) : Need → Prop
  | [] => True
  | x :: l => Read1 av c x ∧ Reads av c l

def exec (a : Act) (op : Op) (ty : TypeId) : Sem Next := execOp a.eval ⟨none, op, ty, "", #[], none⟩
theorem exec_eq (a : Act) (o : Oper) : execOp a.eval o = exec a o.op o.type := rfl

def slotIn (x : Operand) (l : List Operand) : Bool :=
  match x with
  | .tmp s => l.any fun | .tmp u => u == s | _ => false
  | _ => true

/-- What stays while operations only read. -/
structure OC where
  own : Own
  cps : List Rho
abbrev Ctx.oc (g : Ctx) : OC := ⟨g.own, g.cps⟩
structure OcOk (r : Rho) (w : World) (o : OC) : Prop where
  own : OwnOk r w o.own
  cps : ∀ c ∈ o.cps, c.le r
/-- One operation that only reads, computes, makes new read-only memory or calls such a function. -/
def OpN (P : Program) (own : OC) (need : Need) (op : Op) (ty : TypeId) (t : A) : Prop :=
  ∀ (r : Rho) (w : World) (a : Act), r.ok w → OcOk r w own → (∀ x ∈ need, x.1 = true → x.2.2.p r (a.eval x.2.1)) → Good P r w t ((exec a op ty).run P w)

theorem Reads.get {av : List (Nat × Bool × A)} {c : Bool} : ∀ {l : Need}, Reads av c l → ∀ x ∈ l, Read1 av c x
  | _ :: _, h, x, hx => by
    rcases List.mem_cons.1 hx with rfl | hx
    · exact h.1
    · exact Reads.get h.2 x hx

/-- The slots' facts as a proposition of the slots' values. -/
def Slots (r : Rho) (a : Act) (av : List (Nat × Bool × A)) : Prop := ∀ s c x, look av s = some (c, x) → (c = true → x.p r (a.tmps.getD s undef)) ∧ (c = false → a.tmps.getD s undef = undef)

theorem Reads.use {av : List (Nat × Bool × A)} {c : Bool} {l : Need} (h : Reads av c l) (hc : c = true) {r : Rho} {a : Act} (hs : Slots r a av) :
    ∀ x ∈ l, x.1 = true → x.2.2.p r (a.eval x.2.1) := by
  intro x hx h1
  have h2 := h.get x hx
  unfold Read1 at h2
  obtain ⟨cnd, y, t⟩ := x
  cases y with
  | tmp s => obtain ⟨cs, e, k⟩ := h2; exact (hs s cs t e).1 (k hc h1)
  | const v => exact h2 r a
  | global g => exact h2 r a
  | func f => exact h2 r a

theorem getD_put_same {a : Act} {d : Nat} {v : Value} (h : d < a.tmps.size) : (a.put (some d) v).tmps.getD d undef = v := by
  simp [Act.put, h]
theorem getD_put_ne {a : Act} {d s : Nat} {v : Value} (h : d ≠ s) : (a.put (some d) v).tmps.getD s undef = a.tmps.getD s undef := by
  simp [Act.put, Array.getElem?_setIfInBounds_ne h]
theorem size_put {a : Act} {d : Option Nat} {v : Value} : (a.put d v).tmps.size = a.tmps.size := by
  cases d <;> simp [Act.put]
theorem defers_put {a : Act} {d : Option Nat} {v : Value} : (a.put d v).defers = a.defers := by cases d <;> rfl

theorem RoomOk.grow {r s : Rho} {w w' : World} {x : Value × Nat × Nat} (h : RoomOk r w x) (g : Grow r w s w') : RoomOk s w' x := by
  unfold RoomOk at *
  split at h
  · exact h
  · obtain ⟨h1, h2, h3, h4, ⟨vs, e, hv⟩, k⟩ := h
    have hlt := (Array.getElem?_eq_some_iff.1 e).1
    refine ⟨h1, h2, h3, h4, ⟨vs, by rw [g.below.block _ hlt]; exact e, hv⟩, fun o sp ho => ?_⟩
    cases hs : s _ with
    | none => rfl
    | some v =>
      rcases g.fresh _ _ hs with q | q
      · rw [k _ _ ho] at q; cases q
      · exact absurd q.1 (by simp; omega)
  · exact h

/-- The world goes on by a growth: all but the slots stays. -/
theorem HoldsAt.grow {E : Env} {g : Ctx} {r s : Rho} {a a' : Act} {w w' : World} (H : HoldsAt E g r a w) (h : Grow r w s w') (hs : Slots s a' g.sl) : HoldsAt E g s a' w' where
  le := H.le.trans_le h.le
  cps := fun c hc => Rho.le_trans (H.cps c hc) h.le
  ok := h.ok
  fresh := fun x v e => (h.fresh x v e).elim (fun e1 => (H.fresh x v e1).elim .inl fun q => .inr ⟨q.1, q.2.same (h.below.block _ (Rho.ok_lt H.ok e1))⟩) fun q => .inr ⟨.inr (Nat.le_trans H.size q.1), q.2⟩
  size := Nat.le_trans H.size h.below.size
  block := fun k hk hx => (h.below.block k (Nat.lt_of_lt_of_le hk H.size)).trans (H.block k hk hx)
  unf := fun b hb hu => (H.unf b hb hu).same (h.below.block b (Nat.lt_of_lt_of_le hb H.size))
  os := h.below.os.trans H.os
  tape := h.below.tape.trans H.tape
  output := h.below.output.trans H.output
  slots := hs
  own := H.own.grow h
  ownB := H.ownB
  nodup := H.nodup
  room := fun x hx => (H.room x hx).grow h
  roomB := H.roomB
  roomN := H.roomN
  mp := H.mp.grow h

theorem Slots.mono {r s : Rho} {a : Act} {av : List (Nat × Bool × A)} (h : Slots r a av) (k : r.le s) : Slots s a av := fun t c x e => ⟨fun hc => x.mono k ((h t c x e).1 hc), (h t c x e).2⟩

theorem Slots.put {r : Rho} {a : Act} {av : List (Nat × Bool × A)} (h : Slots r a av) {d : Nat} {v : Value} (hd : d < a.tmps.size) {c : Bool} {t : A} (hv : c = true → t.p r v) (hu : c = false → v = undef) :
    Slots r (a.put (some d) v) ((d, c, t) :: av) := by
  intro s c' x e
  unfold look at e
  by_cases hds : d = s
  · subst hds
    simp at e
    obtain ⟨rfl, rfl⟩ := e
    rw [getD_put_same hd]; exact ⟨hv, hu⟩
  · rw [if_neg (by simpa using hds)] at e
    rw [getD_put_ne hds]
    exact h s c' x e

/-- A step of one operation: it comes to a value that meets t, in a grown world. -/
theorem upon_good {P : Program} {o : Oper} {a : Act} {r : Rho} {w : World} {t : A} {K : Act → World → Prop} {Q : Exit → Act → World → Prop} {res : Result Next} {ro : Option Nat} (h : Good P r w t res)
    (k : ∀ v s w', Grow r w s w' → t.p s v → K (a.put o.dst v) w') : o.uponIn (fz ro) 9 P a K Q res := by
  cases res with
  | halt x w1 => exact h.elim
  | ok n w1 =>
    cases n with
    | value v =>
      obtain ⟨s, g, ht⟩ := h
      rw [Oper.uponIn_value]
      exact k v s w1 g ht
    | enter f args =>
      obtain ⟨e, h⟩ := h
      subst e
      rw [Oper.uponIn_enter]
      refine ⟨fun h => (by cases h), CallsIn.mono (calls_fz h) ?_⟩
      rintro e w'' ⟨v, s, rfl, g, ht⟩
      exact k v s w'' g ht
    | _ => exact h.elim

theorem good_no_defer {P : Program} {r : Rho} {w : World} {t : A} {a : Act} {op : Op} {ty : TypeId} (h : Good P r w t ((exec a op ty).run P w)) : ∀ c, op ≠ .defer c := by
  rintro c rfl
  simp only [exec, execOp, Sem.run_bind] at h
  generalize (resolve a.eval c ty).run P w = res at h
  cases res with
  | ok d w' => simp [Good] at h
  | halt x w' => exact h.elim

theorem wp_good {P : Program} {o : Oper} {a : Act} {r : Rho} {w : World} {t : A} {K : Act → World → Prop} {Q : Exit → Act → World → Prop} {ro : Option Nat} (h : Good P r w t ((exec a o.op o.type).run P w))
    (k : ∀ v s w', Grow r w s w' → t.p s v → K (a.put o.dst v) w') : o.wpIn (fz ro) 9 P a w K Q := by
  refine ⟨fun _ _ => trivial, ?_⟩
  rw [Oper.semAt_eq _ _ _ (good_no_defer h), exec_eq]
  exact upon_good h k

/-- The guard's slot and whether the operation is wanted. -/
theorem wanted_of {ops : Array Oper} {o : Oper} {j gs : Nat} {want : Bool} (ho : o.guard = some (j, want)) (hj : (ops[j]?).bind (·.dst) = some gs) {a : Act} {b : Bool} (hlt : gs < a.tmps.size)
    (hv : a.tmps.getD gs undef = .bool b) : Region.wanted o (yielded ops a.tmps) = (b == want) := by
  unfold Region.wanted
  simp only [ho, yielded, hj]
  have e : a.tmps[gs]? = some (.bool b) := by
    rw [← hv]; simp [hlt]
  simp [e]
theorem wanted_not {ops : Array Oper} {o : Oper} {j gs : Nat} {want : Bool} (ho : o.guard = some (j, want)) (hj : (ops[j]?).bind (·.dst) = some gs) {a : Act} (hlt : gs < a.tmps.size)
    (hv : a.tmps.getD gs undef = undef) : Region.wanted o (yielded ops a.tmps) = false := by
  unfold Region.wanted
  simp only [ho, yielded, hj]
  have e : a.tmps[gs]? = some undef := by
    rw [← hv]; simp [hlt]
  simp [e, undef]

def GuardOk (E : Env) (ops : Array Oper) (av : List (Nat × Bool × A)) (gd : Option (Nat × Bool)) (c : Bool) : Prop :=
  match gd with
  | none => c = true
  | some (j, want) => ∃ gs cg b, (ops[j]?).bind (·.dst) = some gs ∧ Nat.ble (gs + 1) E.n = true ∧ look av gs = some (cg, A.bool b) ∧ c = (cg && (b == want))

/-- One operation, guarded or not: what it gives to its slot. -/
def Step1 (E : Env) (ops : Array Oper) (own : OC) (av : List (Nat × Bool × A)) (o : Oper) (f : Nat × Bool × A) : Prop :=
  o.dst = some f.1 ∧ Nat.ble (f.1 + 1) E.n = true ∧ GuardOk E ops av o.guard f.2.1 ∧
  ∃ need : Need, (f.2.1 = true → OpN E.P own need o.op o.type f.2.2) ∧ Reads av f.2.1 need ∧ (need.all fun x => slotIn x.2.1 o.op.operands.toList) = true

theorem mem_looks {ops : Array Oper} {o : Oper} {s : Nat} (h : slotIn (.tmp s) o.op.operands.toList = true) : s ∈ o.looksAt ops := by
  unfold slotIn at h
  simp only [List.any_eq_true] at h
  obtain ⟨x, hx, k⟩ := h
  unfold Oper.looksAt
  refine List.mem_append_left _ (List.mem_filterMap.2 ⟨x, hx, ?_⟩)
  cases x with
  | tmp u => simp at k; simp [k]
  | _ => simp at k

theorem step_sem {E : Env} {ops : Array Oper} {own : OC} {av : List (Nat × Bool × A)} {o : Oper} {f : Nat × Bool × A} (hS : Step1 E ops own av o f) {r : Rho} {w : World} {a : Act}
    {Q : Exit → Act → World → Prop} (hok : r.ok w) (hown : OcOk r w own) (hsize : a.tmps.size = E.n)
    (hsl : ∀ s ∈ o.looksAt ops, ∀ c x, look av s = some (c, x) → (c = true → x.p r (a.tmps.getD s undef)) ∧ (c = false → a.tmps.getD s undef = undef)) {K : Act → World → Prop}
    (k : ∀ v s w', Grow r w s w' → (f.2.1 = true → f.2.2.p s v) → (f.2.1 = false → v = undef) → K (a.put (some f.1) v) w') :
    if Region.wanted o (yielded ops a.tmps) then o.wpIn (fz E.rnd) 9 E.P a w K Q else (∀ f, o.about E.P w a.eval = some f → (fz E.rnd).fn f) ∧ K (a.put o.dst undef) w := by
  obtain ⟨hd, hn, hg, need, hop, hr, hs⟩ := hS
  have hw : Region.wanted o (yielded ops a.tmps) = f.2.1 := by
    unfold GuardOk at hg
    split at hg
    · rename_i hgd; simp [Region.wanted, hgd, hg]
    · rename_i j want hgd
      obtain ⟨gs, cg, b, hj, hlt, hl, hc⟩ := hg
      have hmem : gs ∈ o.looksAt ops := by unfold Oper.looksAt; simp [hgd, hj]
      have hlt' : gs < a.tmps.size := by rw [hsize]; exact Nat.le_of_ble_eq_true hlt
      obtain ⟨h1, h2⟩ := hsl gs hmem cg _ hl
      cases cg with
      | true => rw [wanted_of hgd hj hlt' (h1 rfl), hc]; rfl
      | false => rw [wanted_not hgd hj hlt' (h2 rfl), hc]; rfl
  rw [hw]
  cases hc : f.2.1 with
  | false =>
    rw [if_neg (by simp), hd]
    refine ⟨fun _ _ => trivial, ?_⟩
    exact k undef r w (Grow.refl hok) (fun e => by rw [hc] at e; cases e) fun _ => rfl
  | true =>
    rw [if_pos rfl]
    have hneed : ∀ x ∈ need, x.1 = true → x.2.2.p r (a.eval x.2.1) := by
      intro x hx h1
      have h2 := hr.get x hx
      have h3 := List.all_eq_true.1 hs x hx
      unfold Read1 at h2
      obtain ⟨cnd, y, t⟩ := x
      cases y with
      | tmp s => obtain ⟨cs, e, kk⟩ := h2; exact (hsl s (mem_looks h3) cs t e).1 (kk hc h1)
      | const v => exact h2 r a
      | global g => exact h2 r a
      | func f => exact h2 r a
    have hgood := hop hc r w a hok hown hneed
    refine wp_good hgood fun v s w' gr ht => ?_
    rw [hd]
    exact k v s w' gr (fun _ => ht) (fun e => by rw [hc] at e; cases e)

section
variable {E : Env} {g : Ctx} {Q : Exit → Act → World → Prop} {ops : Array Oper} {rest : List Oper}

theorem Marks.grow {g : Ctx} {r s : Rho} {a : Act} {w w' : World} (_H : HoldsAt E g r a w) (gr : Grow r w s w') : ∀ {l : List Deferred}, Marks E w l → Marks E w' l
  | [], _ => trivial
  | _ :: _, ⟨⟨b, h1, h2, h3, h4⟩, k⟩ => ⟨⟨b, h1, h2, (gr.below.block b (Array.getElem?_eq_some_iff.1 h3).1).trans h3, h4⟩, Marks.grow _H gr k⟩
theorem Holds.step {d : Nat} {c : Bool} {t : A} {a : Act} {r s : Rho} {w w' : World} {v : Value} (h1 : a.tmps.size = E.n) (h2 : Marks E w a.defers) (H : HoldsAt E g r a w) (gr : Grow r w s w')
    (hd : Nat.ble (d + 1) E.n = true) (hv : c = true → t.p s v) (hu : c = false → v = undef) : Holds E (g.setc d c t) (a.put (some d) v) w' := by
  refine ⟨by rw [size_put]; exact h1, by rw [defers_put]; exact h2.grow H gr, s, ?_⟩
  have hlt : d < a.tmps.size := by rw [h1]; exact Nat.le_of_ble_eq_true hd
  have := H.grow gr (a' := a) (Slots.mono H.slots gr.le)
  exact { this with slots := Slots.put (Slots.mono H.slots gr.le) hlt hv hu }

theorem HoldsAt.oc {g : Ctx} {r : Rho} {a : Act} {w : World} (H : HoldsAt E g r a w) : OcOk r w g.oc := ⟨H.own, H.cps⟩
theorem WL_step {o : Oper} {d : Nat} {c : Bool} {t : A} (hS : Step1 E ops g.oc g.sl o (d, c, t)) (h : WL E ops rest { g with sl := (d, c, t) :: g.sl } Q) : WL E ops (o :: rest) g Q := by
  intro a w k
  obtain ⟨h1, h2, r, H⟩ := k
  refine wpListIn_step fun K hK => ?_
  exact step_sem hS H.ok H.oc h1 (fun s _ c x e => H.slots s c x e) fun v s w' gr hv hu => hK _ _ (h _ _ (Holds.step h1 h2 H gr hS.2.1 hv hu))

theorem band {b c : Bool} (h : b = true) (k : c = true) : (b && c) = true := by rw [h, k]; rfl
theorem bandl {b c : Bool} (h : (b && c) = true) : b = true := by cases b <;> simp_all
theorem bandr {b c : Bool} (h : (b && c) = true) : c = true := by cases b <;> simp_all
theorem Reads.any {av : List (Nat × Bool × A)} {c : Bool} {need : Need} (h : Reads av c need) : Reads av c need := h

section
variable {d : Nat} {op : Op} {ty : TypeId} {pos : String} {aft : Array Edge} {need : Need} {t : A} {j gs : Nat} {cg b : Bool} {av : List (Nat × Bool × A)} {own : OC}
theorem S_plain (hu : OpN E.P own need op ty t) (hr : Reads av true need) (hs : (need.all fun x => slotIn x.2.1 op.operands.toList) = true) (hd : Nat.ble (d + 1) E.n = true) :
    Step1 E ops own av ⟨some d, op, ty, pos, aft, none⟩ (d, true, t) := ⟨rfl, hd, rfl, need, fun _ => hu, hr, hs⟩
theorem S_t1 (hj : (ops[j]?).bind (·.dst) = some gs) (hl : look av gs = some (true, A.bool b)) (hu : b = true → OpN E.P own need op ty t) (hr : Reads av b need)
    (hs : (need.all fun x => slotIn x.2.1 op.operands.toList) = true) (hd : Nat.ble (d + 1) E.n = true) (hgs : Nat.ble (gs + 1) E.n = true) :
    Step1 E ops own av ⟨some d, op, ty, pos, aft, some (j, true)⟩ (d, b, t) := ⟨rfl, hd, ⟨gs, true, b, hj, hgs, hl, by cases b <;> rfl⟩, need, hu, hr, hs⟩
theorem S_f1 (hj : (ops[j]?).bind (·.dst) = some gs) (hl : look av gs = some (true, A.bool b)) (hu : (!b) = true → OpN E.P own need op ty t) (hr : Reads av (!b) need)
    (hs : (need.all fun x => slotIn x.2.1 op.operands.toList) = true) (hd : Nat.ble (d + 1) E.n = true) (hgs : Nat.ble (gs + 1) E.n = true) :
    Step1 E ops own av ⟨some d, op, ty, pos, aft, some (j, false)⟩ (d, !b, t) := ⟨rfl, hd, ⟨gs, true, b, hj, hgs, hl, by cases b <;> rfl⟩, need, hu, hr, hs⟩
theorem S_t (hj : (ops[j]?).bind (·.dst) = some gs) (hl : look av gs = some (cg, A.bool b)) (hu : (cg && b) = true → OpN E.P own need op ty t) (hr : Reads av (cg && b) need)
    (hs : (need.all fun x => slotIn x.2.1 op.operands.toList) = true) (hd : Nat.ble (d + 1) E.n = true) (hgs : Nat.ble (gs + 1) E.n = true) :
    Step1 E ops own av ⟨some d, op, ty, pos, aft, some (j, true)⟩ (d, (cg && b), t) := ⟨rfl, hd, ⟨gs, cg, b, hj, hgs, hl, by cases b <;> cases cg <;> rfl⟩, need, hu, hr, hs⟩
theorem S_f (hj : (ops[j]?).bind (·.dst) = some gs) (hl : look av gs = some (cg, A.bool b)) (hu : (cg && !b) = true → OpN E.P own need op ty t) (hr : Reads av (cg && !b) need)
    (hs : (need.all fun x => slotIn x.2.1 op.operands.toList) = true) (hd : Nat.ble (d + 1) E.n = true) (hgs : Nat.ble (gs + 1) E.n = true) :
    Step1 E ops own av ⟨some d, op, ty, pos, aft, some (j, false)⟩ (d, (cg && !b), t) := ⟨rfl, hd, ⟨gs, cg, b, hj, hgs, hl, by cases b <;> cases cg <;> rfl⟩, need, hu, hr, hs⟩
end
end
end Go.L
/-! Regions that draw their order: a prefix whose operations only read, compute and make new memory, in any order; behind it a tail in a forced order. -/
namespace Go.L
open Go Go.RowKit

def edgesOf (o : Oper) : List Nat := (o.after.toList.filter fun e => Region.binds .any e).map (·.on)

/-- Predecessors of each operation, direct or not, as bits. -/
def maskOf (ms : List Nat) (l : List Nat) : Nat := l.foldl (fun s j => s ||| 2 ^ j ||| ms.getD j 0) 0
def masksFrom : List Oper → List Nat → List Nat
  | [], ms => ms
  | o :: l, ms => masksFrom l (ms ++ [maskOf ms (edgesOf o)])
def allBits (m : Nat) (k : Nat) : Bool := (List.range k).all fun j => m.testBit j

/-- The slots that an operation looks at. -/
def looks (l : List Oper) (o : Oper) : List Nat :=
  (o.op.operands.toList.filterMap fun | .tmp t => some t | _ => none) ++ (match o.guard with | some (j, _) => ((l[j]?).bind (·.dst)).toList | none => [])
theorem looks_eq (l : List Oper) (o : Oper) : o.looksAt l.toArray = looks l o := by
  unfold Oper.looksAt looks
  congr 1
  cases o.guard with
  | none => rfl
  | some x => simp

/-- The prefix of m operations may go in any order, the rest is forced. -/
def drawOk (l : List Oper) (m : Nat) : Bool :=
  let ds := (l.take m).map (·.dst)
  let ms := masksFrom l []
  (l.zipIdx.all fun (o, i) => (edgesOf o).all fun j => Nat.blt j i) &&
  (l.zipIdx.all fun (o, i) => if Nat.ble m i then allBits (ms.getD i 0) i else
    (o.dst.isSome && ((ds.zipIdx.all fun (d, j) => j == i || d != o.dst) &&
      ((looks l o).all fun s => ds.zipIdx.all fun (d, j) => d != some s || (Nat.blt j i && (edgesOf o).contains j)))))

def Chain (E : Env) (ops : Array Oper) (own : OC) : List Oper → List (Nat × Bool × A) → (List (Nat × Bool × A) → Prop) → Prop
  | [], av, K => K av
  | o :: rest, av, K => ∃ f, Step1 E ops own av o f ∧ Chain E ops own rest (f :: av) K

theorem Chain.split {E : Env} {ops : Array Oper} {own : OC} : ∀ {l : List Oper} {av : List (Nat × Bool × A)} {K : List (Nat × Bool × A) → Prop}, Chain E ops own l av K →
    ∃ fs : List (Nat × Bool × A), fs.length = l.length ∧ K (fs.reverse ++ av) ∧ ∀ (i : Nat) o f, l[i]? = some o → fs[i]? = some f → Step1 E ops own ((fs.take i).reverse ++ av) o f
  | [], av, K, h => ⟨[], rfl, h, by simp⟩
  | o :: l, av, K, ⟨f, h1, h2⟩ => by
    obtain ⟨fs, hl, hK, hs⟩ := Chain.split h2
    refine ⟨f :: fs, by simp [hl], by simpa using hK, ?_⟩
    intro i o' f' ho hf
    cases i with
    | zero => simp at ho hf; subst ho; subst hf; simpa using h1
    | succ i =>
      have := hs i o' f' (by simpa using ho) (by simpa using hf)
      simpa using this

theorem testBit_mask {ms : List Nat} {j : Nat} : ∀ (l : List Nat) (s : Nat), (l.foldl (fun s j => s ||| 2 ^ j ||| ms.getD j 0) s).testBit j = true →
    s.testBit j = true ∨ ∃ k ∈ l, k = j ∨ (ms.getD k 0).testBit j = true
  | [], s, h => .inl h
  | k :: l, s, h => by
    rcases testBit_mask l _ h with q | ⟨k', hk', q⟩
    · rw [Nat.testBit_or, Nat.testBit_or, Bool.or_eq_true, Bool.or_eq_true, Nat.testBit_two_pow] at q
      rcases q with (q | q) | q
      · exact .inl q
      · exact .inr ⟨k, by simp, .inl (by simpa using q)⟩
      · exact .inr ⟨k, by simp, .inr q⟩
    · exact .inr ⟨k', by simp [hk'], q⟩

theorem masksFrom_length : ∀ (l : List Oper) (ms : List Nat), (masksFrom l ms).length = ms.length + l.length
  | [], ms => by simp [masksFrom]
  | o :: l, ms => by simp [masksFrom, masksFrom_length l]; omega
theorem masksFrom_old : ∀ (l : List Oper) (ms : List Nat) (i : Nat), i < ms.length → (masksFrom l ms).getD i 0 = ms.getD i 0
  | [], ms, i, _ => rfl
  | o :: l, ms, i, h => by
    rw [masksFrom, masksFrom_old l _ i (by simp; omega)]
    simp [List.getElem?_append_left h]

/-- A downward closed set holds all predecessors of each of its members, and of what is ready. -/
theorem masks_closed (S : Nat → Bool) : ∀ (l : List Oper) (ms : List Nat) (k : Nat), ms.length = k →
    (∀ i j, i < k → S i = true → (ms.getD i 0).testBit j = true → S j = true) →
    (∀ (i : Nat) o, l[i]? = some o → ∀ j ∈ edgesOf o, j < k + i) →
    (∀ (i : Nat) o, l[i]? = some o → S (k + i) = true → ∀ j ∈ edgesOf o, S j = true) →
    (∀ (i : Nat) o, l[i]? = some o → (∀ j ∈ edgesOf o, S j = true) → ∀ j, ((masksFrom l ms).getD (k + i) 0).testBit j = true → S j = true)
  | [], ms, k, hk, h0, hlt, hcl, i, o, ho => by simp at ho
  | o1 :: l, ms, k, hk, h0, hlt, hcl, i, o, ho => by
    intro hr j hj
    have hnew : ∀ o, o = o1 → (∀ j ∈ edgesOf o, S j = true) → ∀ j, (maskOf ms (edgesOf o1)).testBit j = true → S j = true := by
      intro o ho hr j hj
      subst ho
      rcases testBit_mask _ _ hj with q | ⟨k', hk', q⟩
      · simp at q
      · rcases q with rfl | q
        · exact hr _ hk'
        · exact h0 k' j (by have := hlt 0 o (by simp) k' hk'; omega) (hr _ hk') q
    have h0' : ∀ i j, i < k + 1 → S i = true → ((ms ++ [maskOf ms (edgesOf o1)]).getD i 0).testBit j = true → S j = true := by
      intro i j hi hS hb
      by_cases hik : i < k
      · rw [List.getD_eq_getElem?_getD, List.getElem?_append_left (by omega), ← List.getD_eq_getElem?_getD] at hb
        exact h0 i j hik hS hb
      · have : i = k := by omega
        subst this
        rw [List.getD_eq_getElem?_getD, List.getElem?_append_right (by omega)] at hb
        simp [hk] at hb
        exact hnew o1 rfl (hcl 0 o1 (by simp) (by simpa using hS)) j hb
    cases i with
    | zero =>
      simp at ho
      subst ho
      rw [masksFrom, masksFrom_old _ _ _ (by simp; omega)] at hj
      rw [List.getD_eq_getElem?_getD, List.getElem?_append_right (by omega)] at hj
      simp [hk] at hj
      exact hnew o1 rfl hr j hj
    | succ i =>
      have := masks_closed S l (ms ++ [maskOf ms (edgesOf o1)]) (k + 1) (by simp [hk]) h0'
        (fun i o ho j hj => by have := hlt (i + 1) o (by simpa using ho) j hj; omega)
        (fun i o ho hS => hcl (i + 1) o (by simpa using ho) (by rw [show k + (i + 1) = k + 1 + i from by omega]; exact hS)) i o (by simpa using ho) hr j
      rw [show k + 1 + i = k + (i + 1) from by omega] at this
      exact this hj


theorem getD_replicate (n i : Nat) : (Array.replicate n false).getD i false = false := by
  rw [Array.getD_eq_getD_getElem?, Array.getElem?_replicate]; split <;> rfl
theorem getD_false_of_true {S : Array Bool} {i : Nat} (h : S.getD i true = false) : S.getD i false = false ∧ i < S.size := by
  rcases Nat.lt_or_ge i S.size with q | q
  · simp [q] at h ⊢; exact h
  · simp [Nat.not_lt.2 q] at h
theorem getD_true_of_false {S : Array Bool} {i : Nat} (h : S.getD i false = false) (q : i < S.size) : S.getD i true = false := by
  simp [q] at h ⊢; exact h
theorem getD_set {S : Array Bool} {i j : Nat} (hi : i < S.size) : (S.setIfInBounds i true).getD j false = (decide (j = i) || S.getD j false) := by
  by_cases h : j = i
  · subst h; simp [hi]
  · rw [getD_set_ne false (fun e => h e.symm)]; simp [h]

theorem edges_mem {o : Oper} {S : Array Bool} : (∀ e ∈ o.after, Region.binds .any e = true → S.getD e.on false = true) ↔ ∀ j ∈ edgesOf o, S.getD j false = true := by
  unfold edgesOf
  constructor
  · intro h j hj
    obtain ⟨e, he, rfl⟩ := List.mem_map.1 hj
    obtain ⟨h1, h2⟩ := List.mem_filter.1 he
    exact h e (by simpa using h1) h2
  · intro h e he hb
    exact h e.on (List.mem_map.2 ⟨e, List.mem_filter.2 ⟨by simpa using he, hb⟩, rfl⟩)

theorem ready_iff {l : List Oper} {S : Array Bool} {j : Nat} : j ∈ Region.ready .any l.toArray S ↔ S.getD j true = false ∧ ∃ o, l[j]? = some o ∧ ∀ k ∈ edgesOf o, S.getD k false = true := by
  rw [mem_ready]
  simp only [edges_mem, List.getElem?_toArray]

/-- What 'drawOk' says. -/
structure DrawOk (l : List Oper) (m : Nat) : Prop where
  lt : ∀ (i : Nat) o, l[i]? = some o → ∀ j ∈ edgesOf o, j < i
  tail : ∀ i, m ≤ i → i < l.length → ∀ j, j < i → ((masksFrom l []).getD i 0).testBit j = true
  dst : ∀ (i : Nat) o, l[i]? = some o → i < m → ∀ (j : Nat) o', l[j]? = some o' → j < m → j ≠ i → o'.dst ≠ o.dst
  look : ∀ (i : Nat) o, l[i]? = some o → i < m → ∀ s ∈ looks l o, ∀ (j : Nat) o', l[j]? = some o' → j < m → o'.dst = some s → j < i ∧ j ∈ edgesOf o

theorem mem_zipIdx {T : Type} {l : List T} {i : Nat} {x : T} (h : l[i]? = some x) : (x, i) ∈ l.zipIdx := by
  rw [List.mem_zipIdx_iff_getElem?]; exact h

theorem drawOk_spec {l : List Oper} {m : Nat} (h : drawOk l m = true) : DrawOk l m := by
  unfold drawOk at h
  simp only [Bool.and_eq_true, List.all_eq_true] at h
  obtain ⟨h1, h2⟩ := h
  refine ⟨?_, ?_, ?_, ?_⟩
  · intro i o ho j hj
    have := h1 (o, i) (mem_zipIdx ho) j hj
    exact Nat.le_of_ble_eq_true this
  · intro i hmi hi j hj
    have ho : l[i]? = some (l[i]) := List.getElem?_eq_getElem hi
    have := h2 (l[i], i) (mem_zipIdx ho)
    simp only [Nat.ble_eq, hmi, if_true] at this
    unfold allBits at this
    exact List.all_eq_true.1 this j (List.mem_range.2 hj)
  · intro i o ho hi j o' ho' hj hne
    have := h2 (o, i) (mem_zipIdx ho)
    simp only [Nat.ble_eq, Nat.not_le.2 hi, if_false, Bool.and_eq_true, List.all_eq_true] at this
    have k := this.2.1 (o'.dst, j) (mem_zipIdx (by simp [hj, ho']))
    simpa [hne] using k
  · intro i o ho hi s hs j o' ho' hj hd
    have := h2 (o, i) (mem_zipIdx ho)
    simp only [Nat.ble_eq, Nat.not_le.2 hi, if_false, Bool.and_eq_true, List.all_eq_true] at this
    have k := this.2.2 s hs (o'.dst, j) (mem_zipIdx (by simp [hj, ho']))
    simp [hd] at k
    exact ⟨k.1, k.2⟩

section
variable {P : Program} {Q : Exit → Act → World → Prop} {l : List Oper} {m : Nat} {ro : Option Nat}

theorem tail_any (D : DrawOk l m) : ∀ (t j : Nat) (S : Array Bool) (a : Act) (w : World), j + t = l.length → m ≤ j → S.size = l.length → (∀ i, S.getD i false = decide (i < j)) →
    wpListIn (fz ro) 9 P l.toArray Q (l.drop j) a w → wpAnyIn (fz ro) 9 P .any l.toArray Q t S a w := by
  intro t
  induction t with
  | zero =>
    intro j S a w hj hm hS hl h
    refine ⟨?_, by rw [List.drop_eq_nil_of_le (by omega)] at h; exact h⟩
    refine List.eq_nil_iff_forall_not_mem.2 fun i hi => ?_
    obtain ⟨h1, o, ho, _⟩ := ready_iff.1 hi
    obtain ⟨h2, h3⟩ := getD_false_of_true h1
    rw [hl i] at h2
    simp at h2; omega
  | succ t ih =>
    intro j S a w hj hm hS hl h
    have hlt : j < l.length := by omega
    have ho : l[j]? = some l[j] := List.getElem?_eq_getElem hlt
    have hself : j ∈ Region.ready .any l.toArray S := ready_iff.2 ⟨getD_true_of_false (by rw [hl]; simp) (by omega), l[j], ho, fun k hk => by rw [hl]; simpa using D.lt j _ ho k hk⟩
    refine ⟨fun e => by rw [e] at hself; simp at hself, fun i hi => ?_⟩
    obtain ⟨h1, o, hoi, hr⟩ := ready_iff.1 hi
    obtain ⟨h2, h3⟩ := getD_false_of_true h1
    have hij : i = j := by
      rw [hl i] at h2
      simp at h2
      rcases Nat.lt_or_ge j i with q | q
      · exfalso
        have hb := D.tail i (by omega) (by omega) j q
        have := masks_closed (fun k => S.getD k false) l [] 0 rfl (by simp) (by simpa using D.lt) (by
          intro i' o' ho' hSi j' hj'
          simp only [Nat.zero_add] at hSi
          rw [hl] at hSi ⊢
          have := D.lt i' o' ho' j' hj'
          simp at hSi ⊢; omega) i o hoi hr j (by simpa using hb)
        rw [hl] at this; simp at this
      · omega
    subst hij
    rw [List.drop_eq_getElem_cons hlt] at h
    have hop : wpOpIn (fz ro) 9 P l.toArray Q i (wpListIn (fz ro) 9 P l.toArray Q (l.drop (i + 1))) a w := by
      unfold wpOpIn
      simp only [List.getElem?_toArray, ho]
      unfold wpListIn at h
      exact h
    refine wpOpIn_mono (fun a w hk => ih (i + 1) _ a w (by omega) (by omega) (by simpa using hS) (fun k => ?_) hk) hop
    rw [getD_set (by omega), hl]
    by_cases hk : k = i
    · subst hk; simp
    · simp [hk]; omega
end

theorem look_append {s : Nat} : ∀ {l1 l2 : List (Nat × Bool × A)} {c : Bool} {x : A}, look (l1 ++ l2) s = some (c, x) →
    (s, c, x) ∈ l1 ∨ (look l2 s = some (c, x) ∧ ∀ f ∈ l1, f.1 ≠ s)
  | [], _, _, _, h => .inr ⟨h, by simp⟩
  | (t, c', x') :: l1, l2, c, x, h => by
    simp only [List.cons_append, look] at h
    by_cases e : t = s
    · subst e; simp at h; obtain ⟨rfl, rfl⟩ := h; exact .inl (by simp)
    · rw [if_neg (by simpa using e)] at h
      rcases look_append h with q | ⟨q1, q2⟩
      · exact .inl (by simp [q])
      · refine .inr ⟨q1, fun f hf => ?_⟩
        rcases List.mem_cons.1 hf with rfl | hf
        · exact e
        · exact q2 f hf

def Fact (r : Rho) (a : Act) (f : Nat × Bool × A) : Prop := (f.2.1 = true → f.2.2.p r (a.tmps.getD f.1 undef)) ∧ (f.2.1 = false → a.tmps.getD f.1 undef = undef)

structure PState (E : Env) (g : Ctx) (l : List Oper) (m : Nat) (fs : List (Nat × Bool × A)) (S : Array Bool) (a : Act) (w : World) : Prop where
  size : S.size = l.length
  tail : ∀ i, m ≤ i → S.getD i false = false
  closed : ∀ (i : Nat) o, l[i]? = some o → S.getD i false = true → ∀ j ∈ edgesOf o, S.getD j false = true
  tmps : a.tmps.size = E.n
  defers : Marks E w a.defers
  at_ : ∃ r, HoldsAt E { g with sl := [] } r a w ∧ (∀ s c x, look g.sl s = some (c, x) → (∀ f ∈ fs, f.1 ≠ s) → Fact r a (s, c, x)) ∧ (∀ (i : Nat) f, fs[i]? = some f → S.getD i false = true → Fact r a f)

theorem W_draw {E : Env} {g : Ctx} {Q : Exit → Act → World → Prop} {id : Nat} {l : List Oper} (m : Nat) (hmix : E.P.follows .mixedOrders = true) (hm : Nat.ble m l.length = true) (hok : drawOk l m = true)
    (h : Chain E l.toArray g.oc (l.take m) g.sl fun av => WL E l.toArray (l.drop m) { g with sl := av } Q) : W E (.region id l.toArray true) g Q := by
  have hm := Nat.le_of_ble_eq_true hm
  have D := drawOk_spec hok
  obtain ⟨fs, hfl, hK, hst⟩ := h.split
  have hfl : fs.length = m := by rw [hfl]; simp [hm]
  have hstep : ∀ (i : Nat) o f, l[i]? = some o → i < m → fs[i]? = some f → Step1 E l.toArray g.oc ((fs.take i).reverse ++ g.sl) o f := fun i o f ho hi hf => hst i o f (by simp [hi, ho]) hf
  have hdst : ∀ (i : Nat) o f, l[i]? = some o → i < m → fs[i]? = some f → o.dst = some f.1 := fun i o f ho hi hf => (hstep i o f ho hi hf).1
  have getop : ∀ i, i < m → ∃ o f, l[i]? = some o ∧ fs[i]? = some f := fun i hi =>
    ⟨l[i]'(by omega), fs[i]'(by omega), List.getElem?_eq_getElem _, List.getElem?_eq_getElem _⟩
  intro a w k
  refine wpIn_region_any hmix ?_
  have key : ∀ (u : Nat) (S : Array Bool) (a : Act) (w : World), PState E g l m fs S a w → ((List.range m).filter fun i => !S.getD i false).length = u →
      wpAnyIn (fz E.rnd) 9 E.P .any l.toArray Q (u + (l.length - m)) S a w := by
    intro u
    induction u with
    | zero =>
      intro S a w p hu
      have hall : ∀ i, i < m → S.getD i false = true := fun i hi => by
        have := List.length_eq_zero_iff.1 hu
        have := List.filter_eq_nil_iff.1 this i (List.mem_range.2 hi)
        simpa using this
      have hSi : ∀ i, S.getD i false = decide (i < m) := fun i => by
        rcases Nat.lt_or_ge i m with q | q
        · rw [hall i q]; simp [q]
        · rw [p.tail i q]; simp; omega
      rw [Nat.zero_add]
      refine tail_any D _ m S a w (by omega) (Nat.le_refl _) p.size hSi ?_
      obtain ⟨r, H, hg, hf⟩ := p.at_
      refine hK a w ⟨p.tmps, p.defers, r, { H with slots := ?_ }⟩
      intro s c x e
      rcases look_append e with q | ⟨q1, q2⟩
      · obtain ⟨i, hi, he⟩ := List.getElem_of_mem (List.mem_reverse.1 q)
        exact hf i (s, c, x) (by rw [List.getElem?_eq_getElem hi, he]) (hall i (by omega))
      · exact hg s c x q1 (fun f hf => q2 f (List.mem_reverse.2 hf))
    | succ u ih =>
      intro S a w p hu
      rw [show u + 1 + (l.length - m) = (u + (l.length - m)) + 1 from by omega]
      have hex : ∃ i, i < m ∧ S.getD i false = false := by
        have hne : ((List.range m).filter fun i => !S.getD i false) ≠ [] := fun e => by rw [e] at hu; simp at hu
        obtain ⟨i, hi⟩ := List.exists_mem_of_ne_nil _ hne
        obtain ⟨h1, h2⟩ := List.mem_filter.1 hi
        exact ⟨i, List.mem_range.1 h1, by simpa using h2⟩
      obtain ⟨i0, ⟨hi0, hS0⟩, hmin⟩ := least hex
      have hready : i0 ∈ Region.ready .any l.toArray S := by
        have ho : l[i0]? = some (l[i0]'(by omega)) := List.getElem?_eq_getElem _
        refine ready_iff.2 ⟨getD_true_of_false hS0 (by rw [p.size]; omega), _, ho, fun j hj => ?_⟩
        have hlt := D.lt i0 _ ho j hj
        cases hSj : S.getD j false with
        | true => rfl
        | false => have := hmin j ⟨by omega, hSj⟩; omega
      refine ⟨fun e => by rw [e] at hready; simp at hready, fun i hi => ?_⟩
      obtain ⟨h1, o, ho, hr⟩ := ready_iff.1 hi
      obtain ⟨hSi, hilt⟩ := getD_false_of_true h1
      rw [p.size] at hilt
      have him : i < m := by
        rcases Nat.lt_or_ge i m with q | q
        · exact q
        · exfalso
          have := masks_closed (fun k => S.getD k false) l [] 0 rfl (by simp) (by simpa using D.lt) (by
            intro i' o' ho' hSi' j' hj'
            simp only [Nat.zero_add] at hSi'
            exact p.closed i' o' ho' hSi' j' hj') i o ho hr i0 (by simpa using D.tail i q hilt i0 (by omega))
          rw [hS0] at this; cases this
      obtain ⟨_, f, _, hf⟩ := getop i him
      have hs := hstep i o f ho him hf
      obtain ⟨r, H, hg, hfacts⟩ := p.at_
      have hsl : ∀ s ∈ o.looksAt l.toArray, ∀ c x, look ((fs.take i).reverse ++ g.sl) s = some (c, x) → (c = true → x.p r (a.tmps.getD s undef)) ∧ (c = false → a.tmps.getD s undef = undef) := by
        intro s hsm c x e
        rw [looks_eq] at hsm
        rcases look_append e with q | ⟨q1, q2⟩
        · obtain ⟨j, hj, he⟩ := List.getElem_of_mem (List.mem_reverse.1 q)
          have hj' : j < i := by simp at hj; omega
          have hfj : fs[j]? = some (s, c, x) := by
            rw [← he, List.getElem_take]
            exact List.getElem?_eq_getElem _
          obtain ⟨oj, fj, hoj, hfj'⟩ := getop j (by omega)
          rw [hfj] at hfj'
          cases hfj'
          have hd := hdst j oj _ hoj (by omega) hfj
          have hk := D.look i o ho him s hsm j oj hoj (by omega) hd
          exact hfacts j (s, c, x) hfj (hr j hk.2)
        · refine hg s c x q1 fun f' hf' e' => ?_
          obtain ⟨j, hj, he⟩ := List.getElem_of_mem hf'
          have hfj : fs[j]? = some f' := by rw [List.getElem?_eq_getElem hj, he]
          obtain ⟨oj, fj, hoj, hfj'⟩ := getop j (by omega)
          have hd := hdst j oj f' hoj (by omega) hfj
          rw [e'] at hd
          have hk := D.look i o ho him s hsm j oj hoj (by omega) hd
          refine q2 f' (List.mem_reverse.2 ?_) e'
          exact List.mem_of_getElem? (i := j) (by rw [List.getElem?_take]; simp [hk.1, hfj])
      unfold wpOpIn
      simp only [List.getElem?_toArray, ho]
      have step := step_sem (Q := Q) hs H.ok H.oc p.tmps hsl (K := wpAnyIn (fz E.rnd) 9 E.P .any l.toArray Q (u + (l.length - m)) (S.setIfInBounds i true)) (fun v s w' gr hv hun => by
        refine ih _ _ _ ?_ ?_
        · have hd : Nat.ble (f.1 + 1) E.n = true := hs.2.1
          have hlt : f.1 < a.tmps.size := by rw [p.tmps]; exact Nat.le_of_ble_eq_true hd
          refine ⟨by simpa using p.size, ?_, ?_, by rw [size_put]; exact p.tmps, by rw [defers_put]; exact p.defers.grow H gr, s, ?_, ?_, ?_⟩
          · intro j hj
            rw [getD_set (by rw [p.size]; omega), p.tail j hj]
            simp; omega
          · intro j oj hoj hSj k' hk'
            rw [getD_set (by rw [p.size]; omega)] at hSj ⊢
            rcases Bool.or_eq_true _ _ ▸ hSj with q | q
            · have : j = i := by simpa using q
              subst this
              rw [ho] at hoj; cases hoj
              rw [hr k' hk']; simp
            · rw [p.closed j oj hoj q k' hk']; simp
          · have := H.grow gr (a' := a.put (some f.1) v) (fun _ _ _ e => by cases e)
            exact this
          · intro s' c x e hne
            have hk := hg s' c x e hne
            have hne' : f.1 ≠ s' := hne f (List.mem_of_getElem? hf)
            unfold Fact at *
            simp only [getD_put_ne hne']
            exact ⟨fun hc => x.mono gr.le (hk.1 hc), hk.2⟩
          · intro j f' hfj hSj
            rw [getD_set (by rw [p.size]; omega)] at hSj
            by_cases hji : j = i
            · subst hji
              rw [hf] at hfj; cases hfj
              unfold Fact
              rw [getD_put_same hlt]
              exact ⟨hv, hun⟩
            · have hSj' : S.getD j false = true := by simpa [hji] using hSj
              have hk := hfacts j f' hfj hSj'
              have hjm : j < m := by rw [← hfl]; exact (List.getElem?_eq_some_iff.1 hfj).1
              obtain ⟨oj, _, hoj, _⟩ := getop j hjm
              have hne' : f.1 ≠ f'.1 := fun e' => D.dst i o ho him j oj hoj hjm hji (by rw [hdst j oj f' hoj hjm hfj, hdst i o f ho him hf, e'])
              unfold Fact at *
              simp only [getD_put_ne hne']
              exact ⟨fun hc => f'.2.2.mono gr.le (hk.1 hc), hk.2⟩
        · have hfil : ((List.range m).filter fun j => !(S.setIfInBounds i true).getD j false) = ((List.range m).filter fun j => !S.getD j false).erase i := by
            rw [List.Nodup.erase_eq_filter (List.Nodup.sublist List.filter_sublist List.nodup_range), List.filter_filter]
            refine List.filter_congr fun j _ => ?_
            rw [getD_set (by rw [p.size]; omega)]
            by_cases hji : j = i <;> simp [hji]
          rw [hfil, List.length_erase_of_mem (List.mem_filter.2 ⟨List.mem_range.2 him, by simp [hSi]⟩), hu]
          rfl)
      split
      · rename_i hw
        rw [if_pos hw] at step
        exact step
      · rename_i hw
        rw [if_neg hw] at step
        exact step
  obtain ⟨k1, k2, r, H⟩ := k
  have k2 : Marks E { w with drawn := w.drawn + 1 } a.defers := k2.grow H (Grow.same H.ok ((Below.refl _ _).drew))
  have hcount : ((List.range m).filter fun i => !(Array.replicate l.toArray.size false).getD i false).length = m := by
    rw [List.filter_eq_self.2 (fun i hi => ?_)]
    · simp
    · rw [getD_replicate]; rfl
  have hdrew : HoldsAt E { g with sl := [] } r a { w with drawn := w.drawn + 1 } := by
    have hgr : Grow r w r w.drew := Grow.same H.ok ((Below.refl _ _).drew)
    have := H.grow hgr (a' := a) H.slots
    exact { this with slots := fun _ _ _ e => by cases e }
  have fin := key m (Array.replicate l.toArray.size false) a { w with drawn := w.drawn + 1 } ⟨by simp, fun i _ => getD_replicate _ i, (by intro i o _ hS; rw [getD_replicate] at hS; cases hS), k1, k2, r, hdrew, fun s c x e _ => H.slots s c x e, (by intro i f _ hS; rw [getD_replicate] at hS; cases hS)⟩ hcount
  rw [show m + (l.length - m) = l.toArray.size from by simp; omega] at fin
  exact fin
end Go.L
/-! What single operations give: 'OpN' at each kind of operation. -/
namespace Go.L
open Go Go.RowKit

def atomic : TypeDesc → Bool
  | .struct _ | .array .. => false
  | _ => true
def elemOf? : TypeDesc → Option TypeId
  | .slice e => some e
  | _ => none
def sizeAt (P : Program) (t : TypeId) : Option Nat := (P.info? t).map (·.size)
/-- A type of one cell. -/
def TA (P : Program) (t : TypeId) : Prop := (P.underlying t).map atomic = some true
/-- A struct or an array of n cells. -/
def TG (P : Program) (t : TypeId) (n : Nat) : Prop := (P.underlying t).map atomic = some false ∧ sizeAt P t = some n
/-- A slice type of elements e of k cells. -/
def TS (P : Program) (t e k : Nat) : Prop := (P.underlying t).bind elemOf? = some e ∧ sizeAt P e = some k
def fieldOff (P : Program) (s i : Nat) : Option Nat :=
  match P.underlying s with
  | some (.struct fs) => match fs[i]? with
    | some f => match sizeAt P f.type with
      | some (_ + 1) => some f.offset
      | _ => none
    | none => none
  | _ => none
def TF (P : Program) (s i off : Nat) : Prop := fieldOff P s i = some off

section
variable {P : Program} {w : World}
theorem run_underlying {t : TypeId} {d : TypeDesc} (h : P.underlying t = some d) : (underlying t).run P w = .ok d w := by
  simp [underlying, h]
theorem run_sizeOf {t : TypeId} {n : Nat} (h : sizeAt P t = some n) : (sizeOf t).run P w = .ok n w := by
  unfold sizeAt at h
  cases hi : P.info? t with
  | none => simp [hi] at h
  | some i => simp [hi] at h; simp [sizeOf, typeInfo, hi, h]
theorem TA.isAgg {t : TypeId} (h : TA P t) : (isAgg t).run P w = .ok false w := by
  unfold TA at h
  cases hd : P.underlying t with
  | none => simp [hd] at h
  | some d =>
    simp [hd] at h
    simp only [Go.isAgg, Sem.run_bind, run_underlying hd, Result.andThen_ok]
    cases d <;> simp_all [atomic]
theorem TG.isAgg {t n : Nat} (h : TG P t n) : (isAgg t).run P w = .ok true w := by
  obtain ⟨h, _⟩ := h
  cases hd : P.underlying t with
  | none => simp [hd] at h
  | some d =>
    simp [hd] at h
    simp only [Go.isAgg, Sem.run_bind, run_underlying hd, Result.andThen_ok]
    cases d <;> simp_all [atomic]
theorem TS.under {t e k : Nat} (h : TS P t e k) : P.underlying t = some (.slice e) := by
  obtain ⟨h, _⟩ := h
  cases hd : P.underlying t with
  | none => simp [hd] at h
  | some d => cases d <;> simp_all [elemOf?]

theorem run_loadAt_atom {t : TypeId} (h : TA P t) {a : Addr} {v : Value} (hc : w.cell? a = some v) : (Instr.loadAt t (.pointer (some a))).run P w = .ok v w := by
  simp [Instr.loadAt, Instr.sureAddr, loadVar, h.isAgg, hc]
theorem run_loadAt_agg {t n : Nat} (h : TG P t n) {a : Addr} {cs : List Value} (hl : cs.length = n) (hc : ∀ j v, cs[j]? = some v → w.cell? (a.add j) = some v) :
    (Instr.loadAt t (.pointer (some a))).run P w = .ok (.agg cs.toArray) w := by
  subst hl
  simp [Instr.loadAt, Instr.sureAddr, loadVar, h.isAgg, run_sizeOf h.2, run_loadCells_list w a cs hc]
theorem add_off {b o j : Nat} : (⟨b, o, none⟩ : Addr).add j = ⟨b, o + j, none⟩ := by
  unfold Addr.add; split <;> simp_all
theorem run_fieldAt {s i off : Nat} (h : TF P s i off) {b o : Nat} : (Instr.fieldAt s (.pointer (some ⟨b, o, none⟩)) i).run P w = .ok (.pointer (some ⟨b, o + off, none⟩)) w := by
  unfold TF fieldOff at h
  cases hd : P.underlying s with
  | none => simp [hd] at h
  | some d =>
    cases d <;> simp only [hd] at h <;> try (cases h)
    rename_i fs
    cases hf : fs[i]? with
    | none => simp [hf] at h
    | some f =>
      simp only [hf] at h
      cases hn : sizeAt P f.type with
      | none => simp [hn] at h
      | some n =>
        cases n with
        | zero => simp [hn] at h
        | succ n =>
          simp [hn] at h
          subst h
          simp [Instr.fieldAt, run_underlying hd, hf, Instr.sureAddr, fieldPlace, run_sizeOf hn, add_off]
theorem run_indexAt {t e k : Nat} (h : TS P t e k) {b o len cap : Nat} {i : Int} (h0 : 0 ≤ i) (h1 : i < len) :
    (Instr.indexAt t (.slice (some ⟨b, o, none⟩) len cap) (.int .i64 i)).run P w = .ok (.pointer (some ⟨b, o + i.toNat * k, none⟩)) w := by
  simp [Instr.indexAt, asIntOf, run_underlying h.under, run_sizeOf h.2, h0, h1, add_off]

theorem run_len_sl {t e k : Nat} (h : TS P t e k) {ty : TypeId} {a : Option Addr} {n c : Nat} : (Builtin.len_ #[t] ty #[.slice a n c]).run P w = .ok (.int .i64 n) w := by
  simp [Builtin.len_, run_underlying h.under, goInt]
end

theorem Good.here {P : Program} {r : Rho} {w : World} {t : A} {v : Value} (hok : r.ok w) (h : t.p r v) : Good P r w t (.ok (.value v) w) := ⟨r, Grow.refl hok, h⟩

section
variable {P : Program} {own : OC} {ty : TypeId}

theorem O_move {x : Operand} {t : A} : OpN P own [(true, x, t)] (.move x) ty t := fun r w a hok _ hn => by
  simp only [exec, execOp, Sem.run_pure]
  exact Good.here hok (hn (true, x, t) (by simp) rfl)
theorem O_assign {x : Operand} {t : A} : OpN P own [(true, x, t)] (.assign x) ty t := fun r w a hok _ hn => by
  simp only [exec, execOp, Sem.run_pure]
  exact Good.here hok (hn (true, x, t) (by simp) rfl)

theorem O_assignc {v : Value} : OpN P own [] (.assign (.const v)) ty (A.val v) := fun r w a hok _ _ => by
  simp only [exec, execOp, Sem.run_pure]
  exact Good.here hok rfl
theorem O_movec {v : Value} : OpN P own [] (.move (.const v)) ty (A.val v) := fun r w a hok _ _ => by
  simp only [exec, execOp, Sem.run_pure]
  exact Good.here hok rfl

theorem O_pick {c x y : Operand} {b : Bool} {t u : A} (h : ∀ r v, if b then t.p r v → u.p r v else True) {t' : A} (h' : ∀ r v, if b then True else t'.p r v → u.p r v) :
    OpN P own [(true, c, A.bool b), (b, x, t), (!b, y, t')] (.pick c x y) ty u := fun r w a hok _ hn => by
  have hc : a.eval c = .bool b := hn (true, c, A.bool b) (by simp) rfl
  simp only [exec, execOp, Sem.run_bind, Sem.run_pure, hc, asBool, Result.andThen_ok]
  cases b with
  | true => exact Good.here hok (h r _ (hn (true, x, t) (by simp) rfl))
  | false => exact Good.here hok (h' r _ (hn (true, y, t') (by simp) rfl))

/-- a || b -/
theorem O_or {c y : Operand} {b b2 : Bool} : OpN P own [(true, c, A.bool b), (!b, y, A.bool b2)] (.pick c (.const (.bool true)) y) ty (A.bool (b || b2)) := fun r w a hok _ hn => by
  have hc : a.eval c = .bool b := hn (true, c, A.bool b) (by simp) rfl
  simp only [exec, execOp, Sem.run_bind, Sem.run_pure, hc, asBool, Result.andThen_ok]
  cases b with
  | true => exact Good.here hok rfl
  | false => exact Good.here hok (hn (true, y, A.bool b2) (by simp) rfl)
/-- a && b -/
theorem O_and {c x : Operand} {b b2 : Bool} : OpN P own [(true, c, A.bool b), (b, x, A.bool b2)] (.pick c x (.const (.bool false))) ty (A.bool (b && b2)) := fun r w a hok _ hn => by
  have hc : a.eval c = .bool b := hn (true, c, A.bool b) (by simp) rfl
  simp only [exec, execOp, Sem.run_bind, Sem.run_pure, hc, asBool, Result.andThen_ok]
  cases b with
  | true => exact Good.here hok (hn (true, x, A.bool b2) (by simp) rfl)
  | false => exact Good.here hok rfl

theorem int2 {a : Act} {x y : Operand} {m n : Int} {r : Rho} (hn : ∀ z ∈ [(true, x, A.int m), (true, y, A.int n)], z.1 = true → z.2.2.p r (a.eval z.2.1)) :
    a.eval x = .int .i64 m ∧ a.eval y = .int .i64 n := ⟨hn (true, x, A.int m) (by simp) rfl, hn (true, y, A.int n) (by simp) rfl⟩

abbrev inI (z : Int) : Prop := -9223372036854775808 ≤ z ∧ z ≤ 9223372036854775807
theorem wrap_in {z : Int} (h : inI z) : IntKind.i64.wrap z = z := IntWalk.i64_in _ h

section
variable {x y : Operand} {m n : Int} {T T2 : TypeId}
theorem O_add (h : inI (m + n)) : OpN P own [(true, x, A.int m), (true, y, A.int n)] (.binOp .add T x y T2) ty (A.int (m + n)) := fun r w a hok _ hn => by
  obtain ⟨hx, hy⟩ := int2 hn
  simp only [exec, execOp, hx, hy, eqGuard, binOp, Op.intArith, Sem.run_bind, Sem.run_pure]
  simp [wrap_in h]
  exact Good.here hok rfl
theorem O_sub (h : inI (m - n)) : OpN P own [(true, x, A.int m), (true, y, A.int n)] (.binOp .sub T x y T2) ty (A.int (m - n)) := fun r w a hok _ hn => by
  obtain ⟨hx, hy⟩ := int2 hn
  simp only [exec, execOp, hx, hy, eqGuard, binOp, Op.intArith, Sem.run_bind, Sem.run_pure]
  simp [wrap_in h]
  exact Good.here hok rfl
theorem O_mul (h : inI (m * n)) : OpN P own [(true, x, A.int m), (true, y, A.int n)] (.binOp .mul T x y T2) ty (A.int (m * n)) := fun r w a hok _ hn => by
  obtain ⟨hx, hy⟩ := int2 hn
  simp only [exec, execOp, hx, hy, eqGuard, binOp, Op.intArith, Sem.run_bind, Sem.run_pure]
  simp [wrap_in h]
  exact Good.here hok rfl
theorem O_lss : OpN P own [(true, x, A.int m), (true, y, A.int n)] (.binOp .lss T x y T2) ty (A.bool (decide (m < n))) := fun r w a hok _ hn => by
  obtain ⟨hx, hy⟩ := int2 hn
  simp [exec, execOp, hx, hy, eqGuard, binOp, Op.intCmp]
  exact Good.here hok rfl
theorem O_leq : OpN P own [(true, x, A.int m), (true, y, A.int n)] (.binOp .leq T x y T2) ty (A.bool (decide (m ≤ n))) := fun r w a hok _ hn => by
  obtain ⟨hx, hy⟩ := int2 hn
  simp [exec, execOp, hx, hy, eqGuard, binOp, Op.intCmp]
  exact Good.here hok rfl
theorem O_gtr : OpN P own [(true, x, A.int m), (true, y, A.int n)] (.binOp .gtr T x y T2) ty (A.bool (decide (n < m))) := fun r w a hok _ hn => by
  obtain ⟨hx, hy⟩ := int2 hn
  simp [exec, execOp, hx, hy, eqGuard, binOp, Op.intCmp]
  exact Good.here hok rfl
theorem O_geq : OpN P own [(true, x, A.int m), (true, y, A.int n)] (.binOp .geq T x y T2) ty (A.bool (decide (n ≤ m))) := fun r w a hok _ hn => by
  obtain ⟨hx, hy⟩ := int2 hn
  simp [exec, execOp, hx, hy, eqGuard, binOp, Op.intCmp]
  exact Good.here hok rfl
theorem O_eql : OpN P own [(true, x, A.int m), (true, y, A.int n)] (.binOp .eql T x y T2) ty (A.bool (decide (m = n))) := fun r w a hok _ hn => by
  obtain ⟨hx, hy⟩ := int2 hn
  simp [exec, execOp, hx, hy, eqGuard, binOp, Op.intCmp]
  exact Good.here hok (by show _ = _; rw [show (m == n) = decide (m = n) from rfl])
theorem O_neq : OpN P own [(true, x, A.int m), (true, y, A.int n)] (.binOp .neq T x y T2) ty (A.bool (!decide (m = n))) := fun r w a hok _ hn => by
  obtain ⟨hx, hy⟩ := int2 hn
  simp [exec, execOp, hx, hy, eqGuard, binOp, Op.intCmp]
  exact Good.here hok rfl
end

section
variable {x y : Operand} {b c : Bool} {T T2 : TypeId}
theorem bool2 {a : Act} {x y : Operand} {m n : Bool} {r : Rho} (hn : ∀ z ∈ [(true, x, A.bool m), (true, y, A.bool n)], z.1 = true → z.2.2.p r (a.eval z.2.1)) :
    a.eval x = .bool m ∧ a.eval y = .bool n := ⟨hn (true, x, A.bool m) (by simp) rfl, hn (true, y, A.bool n) (by simp) rfl⟩
theorem O_eqb (h : P.underlying T = some .bool) : OpN P own [(true, x, A.bool b), (true, y, A.bool c)] (.binOp .eql T x y T2) ty (A.bool (b == c)) := fun r w a hok _ hn => by
  obtain ⟨hx, hy⟩ := bool2 hn
  simp [exec, execOp, hx, hy, eqGuard, run_eql_bool w T b c h]
  exact Good.here hok rfl
theorem O_neb (h : P.underlying T = some .bool) : OpN P own [(true, x, A.bool b), (true, y, A.bool c)] (.binOp .neq T x y T2) ty (A.bool (!(b == c))) := fun r w a hok _ hn => by
  obtain ⟨hx, hy⟩ := bool2 hn
  simp [exec, execOp, hx, hy, eqGuard, run_neq_bool w T b c h]
  exact Good.here hok rfl
theorem O_not : OpN P own [(true, x, A.bool b)] (.unOp .not T x) ty (A.bool (!b)) := fun r w a hok _ hn => by
  have hx : a.eval x = .bool b := hn (true, x, A.bool b) (by simp) rfl
  simp [exec, execOp, hx, Op.unary]
  exact Good.here hok rfl
end

section
variable {x i : Operand} {T e k off : Nat}
theorem O_field {j : Nat} {cells : List A} (h : TF P T j off) : OpN P own [(true, x, A.pt cells)] (.fieldAddr T x j) ty (A.pt (cells.drop off)) := fun r w a hok _ hn => by
  obtain ⟨b, o, hx, hc⟩ := hn (true, x, A.pt cells) (by simp) rfl
  have hx : a.eval x = .pointer (some ⟨b, o, none⟩) := hx
  simp only [exec, execOp, hx, Sem.run_bind, run_fieldAt h, Result.andThen_ok, Sem.run_pure]
  refine Good.here hok ⟨b, o + off, rfl, fun i c hi => ?_⟩
  have := hc (off + i) c (by simpa using hi)
  rwa [Nat.add_assoc]
theorem O_fieldv {j b o : Nat} (h : TF P T j off) : OpN P own [(true, x, A.val (.pointer (some ⟨b, o, none⟩)))] (.fieldAddr T x j) ty (A.val (.pointer (some ⟨b, o + off, none⟩))) := fun r w a hok _ hn => by
  have hx : a.eval x = .pointer (some ⟨b, o, none⟩) := hn (true, x, _) (List.mem_singleton.2 rfl) rfl
  simp only [exec, execOp, hx, Sem.run_bind, run_fieldAt h, Result.andThen_ok, Sem.run_pure]
  exact Good.here hok rfl

/-- The i-th of a list, by an Int. -/
def idx {S : Type} [Inhabited S] (L : List S) (n : Int) : S := L.getD n.toNat default
theorem idx_get {S : Type} [Inhabited S] {L : List S} {n : Int} (h0 : 0 ≤ n) (h1 : n < L.length) : L[n.toNat]? = some (idx L n) := by
  have : n.toNat < L.length := by omega
  simp [idx, this]

theorem O_index {S : Type} [Inhabited S] {f : S → List A} {L : List S} {n : Int} (h : TS P T e k) (hb : 0 ≤ n ∧ n < L.length) :
    OpN P own [(true, x, A.sl k f L), (true, i, A.int n)] (.indexAddr T x i) ty (A.pt (f (idx L n))) := fun r w a hok _ hn => by
  obtain ⟨p, len, cap, hx, h1, h2, h3, h4⟩ := hn (true, x, A.sl k f L) (by simp) rfl
  have hx : a.eval x = .slice p len cap := hx
  have hi : a.eval i = .int .i64 n := hn (true, i, A.int n) (by simp) rfl
  subst h1
  obtain ⟨b, o, rfl, hc⟩ := h4 (fun e => by rw [e] at hb; simp at hb; omega)
  simp only [exec, execOp, hx, hi, Sem.run_bind, run_indexAt h hb.1 hb.2, Result.andThen_ok, Sem.run_pure]
  exact Good.here hok ⟨b, _, rfl, hc n.toNat _ (idx_get hb.1 hb.2)⟩

theorem O_load {c : A} {cells : List A} (h : TA P T) : OpN P own [(true, x, A.pt (c :: cells))] (.load T x) ty c := fun r w a hok _ hn => by
  obtain ⟨b, o, hx, hc⟩ := hn (true, x, A.pt (c :: cells)) (by simp) rfl
  have hx : a.eval x = .pointer (some ⟨b, o, none⟩) := hx
  obtain ⟨v, hv, hp⟩ := hc 0 c (by simp)
  rw [Nat.add_zero] at hv
  simp only [exec, execOp, hx, Sem.run_bind, run_loadAt_atom h (hok.cell hv), Result.andThen_ok, Sem.run_pure]
  exact Good.here hok hp

theorem exists_cells {r : Rho} {b o : Nat} : ∀ (cells : List A) (o' : Nat), (∀ (i : Nat) c, cells[i]? = some c → ∃ x, r ⟨b, o + (o' + i), none⟩ = some x ∧ c.p r x) →
    ∃ vs : List Value, All2 r cells vs ∧ ∀ (i : Nat) v, vs[i]? = some v → r ⟨b, o + (o' + i), none⟩ = some v
  | [], _, _ => ⟨[], trivial, by simp⟩
  | c :: cells, o', h => by
    obtain ⟨x, hx, hp⟩ := h 0 c (by simp)
    obtain ⟨vs, h1, h2⟩ := exists_cells cells (o' + 1) (fun i c' hc => by have := h (i + 1) c' (by simpa using hc); rwa [show o' + (i + 1) = o' + 1 + i from by omega] at this)
    refine ⟨x :: vs, ⟨hp, h1⟩, fun i v hv => ?_⟩
    cases i with
    | zero => simp at hv; subst hv; exact hx
    | succ i => have := h2 i v (by simpa using hv); rwa [show o' + (i + 1) = o' + 1 + i from by omega]

theorem O_loadg {n : Nat} {cells : List A} (h : TG P T n) (hl : n ≤ cells.length) : OpN P own [(true, x, A.pt cells)] (.load T x) ty (A.agg (cells.take n)) := fun r w a hok _ hn => by
  obtain ⟨b, o, hx, hc⟩ := hn (true, x, A.pt cells) (by simp) rfl
  have hx : a.eval x = .pointer (some ⟨b, o, none⟩) := hx
  obtain ⟨vs, h1, h2⟩ := exists_cells (r := r) (b := b) (o := o) (cells.take n) 0 (fun i c hi => by
    rw [Nat.zero_add]
    exact hc i c (by rw [List.getElem?_take] at hi; split at hi; exact hi; cases hi))
  have hlen : vs.length = n := by rw [← h1.length]; simp [hl]
  simp only [exec, execOp, hx, Sem.run_bind, run_loadAt_agg h hlen (fun j v hv => by rw [add_off]; exact hok.cell (by have := h2 j v hv; rwa [Nat.zero_add] at this)), Result.andThen_ok, Sem.run_pure]
  exact Good.here hok ⟨vs.toArray, rfl, by simpa using h1⟩

theorem O_len {S : Type} {f : S → List A} {L : List S} (h : TS P T e k) : OpN P own [(true, x, A.sl k f L)] (.call { callee := .builtin .len, args := #[x], argTypes := #[T] }) ty (A.int L.length) := fun r w a hok _ hn => by
  obtain ⟨p, len, cap, hx, h1, h2, h3, h4⟩ := hn (true, x, A.sl k f L) (by simp) rfl
  have hx : a.eval x = .slice p len cap := hx
  subst h1
  simp only [exec, execOp, resolve, Sem.run_bind, Sem.run_pure, Result.andThen_ok, invoke, builtin]
  simp only [List.map_toArray, List.map_cons, List.map_nil, hx, run_len_sl h, Result.andThen_ok]
  exact Good.here hok rfl

theorem O_extract {j : Nat} {l : List A} {t : A} (h : l[j]? = some t) : OpN P own [(true, x, A.tup l)] (.extract x j) ty t := fun r w a hok _ hn => by
  obtain ⟨vs, hx, hc⟩ := hn (true, x, A.tup l) (by simp) rfl
  have hx : a.eval x = .tuple vs := hx
  obtain ⟨v, hv, hp⟩ := hc.get j t h
  have hv : vs[j]? = some v := by simpa using hv
  simp only [exec, execOp, hx, Sem.run_bind, Instr.extract, hv, Sem.run_pure, Result.andThen_ok]
  exact Good.here hok hp

/-- A function with a body, by its number. -/
def CallF (P : Program) (f : FuncId) : Prop := ∀ (w : World) (vs : Array Value), (callFunc f vs).run P w = .ok (.enter f vs) w

theorem all2_args {r : Rho} {a : Act} : ∀ {xs : List Operand} {ts : List A}, xs.length = ts.length → (∀ z ∈ (xs.zip ts).map (fun z => ((true, z.1, z.2) : Bool × Operand × A)), z.1 = true → z.2.2.p r (a.eval z.2.1)) →
    All2 r ts (xs.map a.eval)
  | [], [], _, _ => trivial
  | x :: xs, t :: ts, hl, h => ⟨h (true, x, t) (by simp) rfl, all2_args (by simpa using hl) fun z hz => h z (by simp at hz ⊢; exact .inr hz)⟩
  | [], _ :: _, hl, _ => by simp at hl
  | _ :: _, [], hl, _ => by simp at hl

theorem O_call {f : FuncId} {xs : List Operand} {ts : List A} {t : A} {tt : Array TypeId} (hf : CallF P f) (h : FnC P f ts t) (hl : xs.length = ts.length) :
    OpN P own ((xs.zip ts).map fun z => (true, z.1, z.2)) (.call { callee := .value (.func f), args := xs.toArray, argTypes := tt }) ty t := fun r w a hok _ hn => by
  have := all2_args hl hn
  have hcall := h r w (xs.map a.eval) hok this
  have e : a.eval (.func f) = .func (.func f) #[] #[] := rfl
  simp only [exec, execOp, resolve, Sem.run_bind, Sem.run_pure, Result.andThen_ok, e, Deferred.ofValue, invoke]
  simp only [List.map_toArray, Array.empty_append, Array.append_empty, hf w _]
  exact ⟨rfl, hcall⟩
end
end
end Go.L
/-! A function's body: entry and return. -/
namespace Go.L
open Go Go.RowKit

def params : Nat → List A → List (Nat × Bool × A)
  | _, [] => []
  | i, t :: l => (i, true, t) :: params (i + 1) l

theorem look_params {s : Nat} {c : Bool} {x : A} : ∀ {l : List A} {i : Nat}, look (params i l) s = some (c, x) → c = true ∧ ∃ j, s = i + j ∧ l[j]? = some x
  | [], _, h => by simp [params, look] at h
  | t :: l, i, h => by
    simp only [params, look] at h
    by_cases e : i = s
    · subst e; simp at h; obtain ⟨rfl, rfl⟩ := h; exact ⟨rfl, 0, by simp, by simp⟩
    · rw [if_neg (by simpa using e)] at h
      obtain ⟨h1, j, h2, h3⟩ := look_params h
      exact ⟨h1, j + 1, by omega, by simpa using h3⟩

/-- What a call leaves, said of the world in which it began. -/
def RetPost (r : Rho) (w : World) (t : A) (e : Ending) (w' : World) : Prop := ∃ v s, e = .returned v ∧ Grow r w s w' ∧ t.p s v
/-- A contract of a function whose result is new memory. -/
def FnN (P : Program) (f : FuncId) (args : List A) (t : A) : Prop :=
  ∀ (r : Rho) (w : World) (vs : List Value), r.ok w → All2 r args vs → Calls P f vs.toArray w (RetPost r w (A.nw r t))

/-- Memory of one's own. -/
structure Mem where
  own : Own := []
  rooms : List (Value × Nat × Nat) := []
  maps : List (Nat × List (Value × A)) := []
def Mem.blk (m : Mem) (b : Nat) : Prop := b ∈ m.own.map (·.1) ∨ b ∈ m.rooms.filterMap (fun x => roomBlock x.1) ∨ b ∈ m.maps.map (·.1)
structure MemOk (r : Rho) (w : World) (m : Mem) : Prop where
  own : OwnOk r w m.own
  room : ∀ x ∈ m.rooms, RoomOk r w x
  maps : ∀ x ∈ m.maps, MapAt r w x.1 x.2
  mapu : ∀ x ∈ m.maps, ∀ o s, r ⟨x.1, o, s⟩ = none
  nodO : (m.own.map (·.1)).Nodup
  roomD : ∀ x ∈ m.rooms, ∀ b, roomBlock x.1 = some b → b ∉ m.own.map (·.1)
  nodR : (m.rooms.filterMap fun x => roomBlock x.1).Nodup
  nodM : (m.maps.map (·.1)).Nodup
/-- The world has grown; blocks of X may have changed, others have not. -/
structure GrowX (X : Nat → Prop) (r : Rho) (w : World) (s : Rho) (w' : World) : Prop where
  le : r.le s
  ok : s.ok w'
  fresh : ∀ a v, s a = some v → r a = some v ∨ ((X a.block ∨ w.heap.size ≤ a.block) ∧ Unf w' a.block)
  size : w.heap.size ≤ w'.heap.size
  block : ∀ k, k < w.heap.size → ¬ X k → w'.heap[k]? = w.heap[k]?
  unf : ∀ b, b < w.heap.size → Unf w b → Unf w' b
  os : w'.os = w.os
  tape : w'.tape = w.tape
  output : w'.output = w.output
def RetX {T : Type} (m : Mem) (r : Rho) (w : World) (t : T → A) (m' : T → Mem) (e : Ending) (w' : World) : Prop :=
  ∃ v s x, e = .returned v ∧ GrowX m.blk r w s w' ∧ (t x).p s v ∧ MemOk s w' (m' x) ∧ ∀ b, (m' x).blk b → m.blk b ∨ w.heap.size ≤ b
/-- A contract of a function with memory of its caller's. -/
def FnX {T : Type} (P : Program) (f : FuncId) (m : Mem) (args : List A) (t : T → A) (m' : T → Mem) : Prop :=
  ∀ (r : Rho) (w : World) (vs : List Value), r.ok w → MemOk r w m → All2 r args vs → Calls P f vs.toArray w (RetX m r w t m')
/-- The world has grown; cells of K hold others of their kind. -/
structure GrowK (K : Addr → Prop) (r : Rho) (w : World) (s : Rho) (w' : World) : Prop where
  le : r.leK K s
  ok : s.ok w'
  fresh : ∀ a v, s a = some v → ((∃ v0, r a = some v0) ∧ ¬ K a) ∨ (((∃ b, K b ∧ b.block = a.block) ∨ w.heap.size ≤ a.block) ∧ Unf w' a.block)
  size : w.heap.size ≤ w'.heap.size
  block : ∀ k, k < w.heap.size → (∀ b, K b → b.block ≠ k) → w'.heap[k]? = w.heap[k]?
  unf : ∀ b, b < w.heap.size → Unf w b → Unf w' b
  os : w'.os = w.os
  tape : w'.tape = w.tape
  output : w'.output = w.output
/-- Cells of r beyond c. -/
def Rho.beyond (r c : Rho) (a : Addr) : Prop := c a = none ∧ a.spot = none ∧ ∃ v, r a = some v
/-- A contract of a function that writes numbers and bools into what it was handed. -/
def FnK (P : Program) (f : FuncId) (args : List A) (t : A) : Prop :=
  ∀ (c r : Rho) (w : World) (vs : List Value), r.ok w → c.le r → (∀ a, r.beyond c a → Unf w a.block) → All2 (r.minus c) args vs →
    Calls P f vs.toArray w fun e w' => ∃ v s, e = .returned v ∧ GrowK (r.beyond c) r w s w' ∧ ∀ s', t.p s' v

/-- A block that is no cells, laid since the call began, may turn. -/
theorem HoldsAt.putObj {E : Env} {g : Ctx} {r : Rho} {a : Act} {w : World} (H : HoldsAt E g r a w) {l : Nat} {o o' : Obj} (hl : w.heap[l]? = some o) (ho : o.isCells = false) (hnm : ∀ es cl, o ≠ .map es cl) (ho' : o'.isCells = false) (hm : g.objs = []) (hb : E.w0.heap.size ≤ l) : HoldsAt E g r a (w.putObj l o') := by
  have same : ∀ (b : Nat) cs ty fr, w.heap[b]? = some (Obj.cells cs ty fr) → (w.putObj l o').heap[b]? = some (Obj.cells cs ty fr) := by
    intro b cs ty fr hbb
    have hne : b ≠ l := fun e => by subst e; rw [hl] at hbb; cases hbb; cases ho
    rw [World.putObj_heap_other hne]; exact hbb
  have hlt : l < w.heap.size := (Array.getElem?_eq_some_iff.1 hl).1
  have cell : ∀ x v, gc w.heap[x.block]? x = some v → gc (w.putObj l o').heap[x.block]? x = some v := by
    intro x v hx
    by_cases q : x.block = l
    · exfalso
      rw [q, hl] at hx
      unfold gc at hx
      split at hx
      · split at hx
        · rename_i heq; cases heq; cases ho
        · cases hx
      · split at hx
        · rename_i heq; cases heq; exact hnm _ _ rfl
        · cases hx
    · rw [World.putObj_heap_other q]; exact hx
  have unf : ∀ b, Unf w b → Unf (w.putObj l o') b := by
    intro b hU cs ty fr e
    by_cases q : b = l
    · subst q; rw [World.putObj_heap_same hlt] at e; cases e; cases ho'
    · rw [World.putObj_heap_other q] at e; exact hU _ _ _ e
  exact {
    le := H.le
    cps := H.cps
    ok := fun x v e => cell x v (H.ok x v e)
    fresh := fun x v e => (H.fresh x v e).elim .inl fun q => .inr ⟨q.1, unf _ q.2⟩
    size := by rw [World.putObj_size]; exact H.size
    block := fun k hk hx => by rw [World.putObj_heap_other (by omega)]; exact H.block k hk hx
    unf := fun b hb hu => unf b (H.unf b hb hu)
    os := H.os
    tape := H.tape
    output := H.output
    slots := H.slots
    own := fun x hx => by
      obtain ⟨h1, vs, h2, h3⟩ := H.own x hx
      exact ⟨h1, vs, same _ _ _ _ h2, h3⟩
    ownB := H.ownB
    nodup := H.nodup
    room := fun x hx => by
      have := H.room x hx
      unfold RoomOk at this ⊢
      split at this
      · exact this
      · obtain ⟨h1, h2, h3, h4, ⟨vs, h5, h6⟩, h7⟩ := this
        exact ⟨h1, h2, h3, h4, ⟨vs, same _ _ _ _ h5, h6⟩, h7⟩
      · exact this
    roomB := H.roomB
    roomN := H.roomN
    mp := by
      rw [hm]
      refine ⟨fun x hx => ?_, H.mp.un, H.mp.base, H.mp.nodup, fun _ h => (by cases h), List.nodup_nil⟩
      obtain ⟨arr, cl, h1, h2, h3⟩ := H.mp.at_ x hx
      refine ⟨arr, cl, ?_, h2, h3⟩
      rw [World.putObj_heap_other (fun e => by rw [e, hl] at h1; cases h1; exact hnm _ _ rfl)]
      exact h1 }

/-- Without objects. -/
def Ctx.bare (g : Ctx) : Ctx := { g with objs := [] }
theorem HoldsAt.bare {E : Env} {g : Ctx} {r : Rho} {a : Act} {w : World} (H : HoldsAt E g r a w) : HoldsAt E g.bare r a w :=
  { H with mp := ⟨H.mp.at_, H.mp.un, H.mp.base, H.mp.nodup, fun _ h => (by cases h), List.nodup_nil⟩ }

theorem leaves_marks {E : Env} {g : Ctx} {r : Rho} {a : Act} {fn : Func} {R : Ending → World → Prop} : ∀ (ds : List Deferred) (w : World), Marks E w ds → HoldsAt E g r a w → g.objs = [] →
    (∀ w', HoldsAt E g r a w' → ∃ v, (results fn a.tmps).run E.P w' = .ok v w' ∧ R (.returned v) w') → LeavesInM (fz none) 9 E.P fn a.tmps R ds .returning w
  | [], w, _, H, _, k => k w H
  | d :: ds, w, ⟨⟨b, hd, hb, hw, hne⟩, hm⟩, H, hm0, k => by
    refine ⟨by simp, .inl ⟨b, _, by rw [hd], run_takeDeferred hw, ?_⟩⟩
    refine leaves_marks ds _ ?_ (H.putObj hw rfl (fun _ _ e => by cases e) rfl hm0 hb.1) hm0 k
    have : ∀ l : List Deferred, (∀ d' ∈ l, d' ≠ d) → Marks E w l → Marks E (w.putObj b (.deferred none)) l := by
      intro l
      induction l with
      | nil => intro _ _; trivial
      | cons d' l ih =>
        intro hne ⟨⟨b', h1, h2, h3, h4⟩, h5⟩
        refine ⟨⟨b', h1, h2, ?_, h4⟩, ih (fun x hx => hne x (by simp [hx])) h5⟩
        rw [World.putObj_heap_other (fun e => hne d' (by simp) (by rw [h1, hd, e]))]
        exact h3
    exact this ds hne hm

/-- A function's body from its parameters and memory of its own. -/
theorem Calls_of_W {P : Program} {f : FuncId} {fn : Func} {c : Code} {args : List A} {R : Ending → World → Prop} (hf : P.funcs[f]? = some fn) (hb : fn.body = some c) (hn : Nat.ble args.length fn.ntmps = true)
    {r : Rho} {w : World} {vs : List Value} {X : Nat → Prop} {K : Addr → Prop} {m : Mem} {cps : List Rho} (hok : r.ok w) (ha : All2 r args vs) (hm : MemOk r w m) (hX : ∀ b, m.blk b → X b) (hK : ∀ x v, r x = some v → K x → X x.block ∧ Unf w x.block) (hc : ∀ c ∈ cps, c.le r)
    (h : W ⟨P, fn.ntmps, w, r, X, none, false, K⟩ c ⟨params 0 args, m.own, m.rooms, m.maps, [], cps⟩ (bodyPostM (fz none) 9 P fn R)) : Calls P f vs.toArray w R := by
  refine (callsIn_wide (n := 9)).1 (callsIn_of_wp_marks (F := fz none) hf hb trivial (h _ _ ⟨?_, trivial, r, ?_⟩))
  · have := Nat.le_of_ble_eq_true hn
    have := ha.length
    simp; omega
  · exact {
      le := Rho.leK_refl _ _
      cps := hc
      ok := hok
      fresh := fun x v e => by
        by_cases k : K x
        · exact .inr ⟨.inl (hK x v e k).1, (hK x v e k).2⟩
        · exact .inl ⟨⟨v, e⟩, k⟩
      size := Nat.le_refl _, block := fun _ _ _ => rfl, unf := fun _ _ h => h, os := rfl, tape := rfl, output := rfl
      slots := by
        intro s c x e
        obtain ⟨rfl, j, rfl, hj⟩ := look_params e
        obtain ⟨v, hv, hp⟩ := ha.get j x hj
        refine ⟨fun _ => ?_, fun h => by cases h⟩
        have e : (vs.toArray ++ Array.replicate (fn.ntmps - vs.toArray.size) undef).getD (0 + j) undef = v := by
          have hlt : j < vs.length := (List.getElem?_eq_some_iff.1 hv).1
          rw [Nat.zero_add, Array.getD_eq_getD_getElem?, Array.getElem?_append_left (by simpa using hlt)]
          simp [hv]
        show x.p r (Array.getD _ _ _)
        rw [e]; exact hp
      own := hm.own
      ownB := fun x hx => .inl (hX _ (.inl (List.mem_map.2 ⟨x, hx, rfl⟩)))
      nodup := hm.nodO
      room := hm.room
      roomB := fun x hx b hb => ⟨.inl (hX _ (.inr (.inl (List.mem_filterMap.2 ⟨x, hx, hb⟩)))), hm.roomD x hx b hb⟩
      roomN := hm.nodR
      mp := ⟨hm.maps, hm.mapu, fun x hx => .inl (hX _ (.inr (.inr (List.mem_map.2 ⟨x, hx, rfl⟩)))), hm.nodM, fun _ h => (by cases h), List.nodup_nil⟩ }

theorem MemOk.nil {r : Rho} {w : World} : MemOk r w {} := ⟨fun _ h => (by cases h), fun _ h => (by cases h), fun _ h => (by cases h), fun _ h => (by cases h), List.nodup_nil, fun _ h => (by cases h), List.nodup_nil, List.nodup_nil⟩
theorem Mem.blk_nil {b : Nat} (h : Mem.blk {} b) : False := by rcases h with h | h | h <;> cases h

abbrev EC (P : Program) (n : Nat) (w : World) (r : Rho) : Env := ⟨P, n, w, r, fun _ => False, none, false, fun _ => False⟩
abbrev EX (P : Program) (n : Nat) (w : World) (r : Rho) (X : Nat → Prop) : Env := ⟨P, n, w, r, X, none, false, fun _ => False⟩
abbrev EK (P : Program) (n : Nat) (w : World) (r : Rho) (K : Addr → Prop) : Env := ⟨P, n, w, r, fun b => ∃ a, K a ∧ a.block = b, none, false, K⟩

section
variable {P : Program} {f : FuncId} {fn : Func} {c : Code} {args : List A} {t : A}
theorem Fn_of_W (hf : P.funcs[f]? = some fn) (hb : fn.body = some c) (hn : Nat.ble args.length fn.ntmps = true)
    (h : ∀ r w, W (EC P fn.ntmps w r) c ⟨params 0 args, [], [], [], [], [r]⟩ (bodyPostM (fz none) 9 P fn (RetPost r w t))) : FnC P f args t := by
  intro r w vs hok ha
  exact Calls_of_W hf hb hn hok ha MemOk.nil (fun _ h => (Mem.blk_nil h).elim) (fun _ _ _ h => h.elim) (fun c hc => by rcases List.mem_singleton.1 hc with rfl; exact Rho.le_refl _) (h r w)
theorem FnN_of_W (hf : P.funcs[f]? = some fn) (hb : fn.body = some c) (hn : Nat.ble args.length fn.ntmps = true)
    (h : ∀ r w, W (EC P fn.ntmps w r) c ⟨params 0 args, [], [], [], [], [r]⟩ (bodyPostM (fz none) 9 P fn (RetPost r w (A.nw r t)))) : FnN P f args t := by
  intro r w vs hok ha
  exact Calls_of_W hf hb hn hok ha MemOk.nil (fun _ h => (Mem.blk_nil h).elim) (fun _ _ _ h => h.elim) (fun c hc => by rcases List.mem_singleton.1 hc with rfl; exact Rho.le_refl _) (h r w)
theorem FnX_of_W {T : Type} {m : Mem} {t : T → A} {m' : T → Mem} (hf : P.funcs[f]? = some fn) (hb : fn.body = some c) (hn : Nat.ble args.length fn.ntmps = true)
    (h : ∀ r w, W (EX P fn.ntmps w r m.blk) c ⟨params 0 args, m.own, m.rooms, m.maps, [], [r]⟩ (bodyPostM (fz none) 9 P fn (RetX m r w t m'))) : FnX P f m args t m' := by
  intro r w vs hok hm ha
  exact Calls_of_W hf hb hn hok ha hm (fun _ h => h) (fun _ _ _ h => h.elim) (fun c hc => by rcases List.mem_singleton.1 hc with rfl; exact Rho.le_refl _) (h r w)
theorem FnK_of_W (hf : P.funcs[f]? = some fn) (hb : fn.body = some c) (hn : Nat.ble args.length fn.ntmps = true)
    (h : ∀ c0 r w, W (EK P fn.ntmps w r (r.beyond c0)) c ⟨params 0 (args.map (A.nw c0)), [], [], [], [], [c0]⟩ (bodyPostM (fz none) 9 P fn (fun e w' => ∃ v s, e = .returned v ∧ GrowK (r.beyond c0) r w s w' ∧ ∀ s', t.p s' v))) : FnK P f args t := by
  intro c0 r w vs hok hc hu ha
  have ha' : All2 r (args.map (A.nw c0)) vs := by
    have : ∀ (l : List A) (us : List Value), All2 (r.minus c0) l us → All2 r (l.map (A.nw c0)) us := by
      intro l
      induction l with
      | nil => intro us h; cases us with
        | nil => trivial
        | cons _ _ => exact h.elim
      | cons t l ih => intro us h; cases us with
        | nil => exact h.elim
        | cons u us => exact ⟨⟨hc, h.1⟩, ih us h.2⟩
    exact this _ _ ha
  exact Calls_of_W hf hb (by simpa using hn) hok ha' MemOk.nil (fun _ h => (Mem.blk_nil h).elim) (fun x v e k => ⟨⟨x, k, rfl⟩, hu x k⟩) (fun c hc' => by rcases List.mem_singleton.1 hc' with rfl; exact hc) (h c0 r w)
theorem FnN.fnC (h : FnN P f args t) : FnC P f args t := fun r w vs hok ha => (h r w vs hok ha).mono fun _ _ ⟨v, s, h1, h2, _, h4⟩ => ⟨v, s, h1, h2, t.mono (Rho.minus_le _ _) h4⟩
/-- Known of any ghost heap. -/
def Pure (t : A) : Prop := ∀ r s v, t.p r v → t.p s v
theorem Pure.val {v : Value} : Pure (A.val v) := fun _ _ _ h => h
theorem FnC.fnN (hp : Pure t) (h : FnC P f args t) : FnN P f args t := fun r w vs hok ha => (h r w vs hok ha).mono fun _ _ ⟨v, s, h1, h2, h3⟩ => ⟨v, s, h1, h2, h2.le, hp _ _ _ h3⟩
end

/-- t says no more than u. -/
def Imp (u t : A) : Prop := ∀ r v, u.p r v → t.p r v
theorem Imp.refl {u : A} : Imp u u := fun _ _ h => h
theorem Imp.eq {u t : A} (h : u = t) : Imp u t := fun _ _ k => h ▸ k
theorem Imp.int {m n : Int} (h : m = n) : Imp (A.int m) (A.int n) := h ▸ Imp.refl
theorem Imp.bool {m n : Bool} (h : m = n) : Imp (A.bool m) (A.bool n) := h ▸ Imp.refl
theorem Imp.trans {u t s : A} (h : Imp u t) (k : Imp t s) : Imp u s := fun r v x => k r v (h r v x)
theorem Imp.at_ {c : Rho} {u : A} : Imp (A.at_ c u) u := fun _ _ h => u.mono h.1 h.2
theorem Imp.nw {c : Rho} {u : A} : Imp (A.nw c u) u := fun _ _ h => u.mono (Rho.minus_le _ _) h.2

theorem HoldsAt.toGrow {P : Program} {n : Nat} {w0 : World} {r0 : Rho} {g : Ctx} {r : Rho} {a : Act} {w : World} (H : HoldsAt (EC P n w0 r0) g r a w) : Grow r0 w0 r w :=
  ⟨H.le.le, H.ok, fun x v e => by
    have hle := H.le.le
    rcases H.fresh x v e with ⟨⟨v0, h0⟩, _⟩ | ⟨h1 | h1, h2⟩
    · have := hle _ _ h0; rw [this] at e; cases e; exact .inl h0
    · exact h1.elim
    · exact .inr ⟨h1, h2⟩, ⟨H.os, H.tape, H.output, H.size, fun k hk => H.block k hk (fun h => h)⟩⟩
theorem HoldsAt.toGrowX {P : Program} {n : Nat} {w0 : World} {r0 : Rho} {X : Nat → Prop} {g : Ctx} {r : Rho} {a : Act} {w : World} (H : HoldsAt (EX P n w0 r0 X) g r a w) : GrowX X r0 w0 r w :=
  ⟨H.le.le, H.ok, fun x v e => by
    have hle := H.le.le
    rcases H.fresh x v e with ⟨⟨v0, h0⟩, _⟩ | ⟨h1, h2⟩
    · have := hle _ _ h0; rw [this] at e; cases e; exact .inl h0
    · exact .inr ⟨h1, h2⟩, H.size, H.block, H.unf, H.os, H.tape, H.output⟩
theorem HoldsAt.toGrowK {P : Program} {n : Nat} {w0 : World} {r0 : Rho} {K : Addr → Prop} {g : Ctx} {r : Rho} {a : Act} {w : World} (H : HoldsAt (EK P n w0 r0 K) g r a w) : GrowK K r0 w0 r w :=
  ⟨H.le, H.ok, H.fresh, H.size, fun k hk hx => H.block k hk (fun ⟨a, h1, h2⟩ => hx a h1 h2), H.unf, H.os, H.tape, H.output⟩
theorem HoldsAt.memOk {E : Env} {g : Ctx} {r : Rho} {a : Act} {w : World} (H : HoldsAt E g r a w) : MemOk r w ⟨g.own, g.rooms, g.maps⟩ :=
  ⟨H.own, H.room, H.mp.at_, H.mp.un, H.nodup, fun x hx b hb => (H.roomB x hx b hb).2, H.roomN, H.mp.nodup⟩
theorem HoldsAt.blk {E : Env} {g : Ctx} {r : Rho} {a : Act} {w : World} (H : HoldsAt E g r a w) {b : Nat} (h : Mem.blk ⟨g.own, g.rooms, g.maps⟩ b) : E.base b := by
  rcases h with h | h | h
  · obtain ⟨x, hx, rfl⟩ := List.mem_map.1 h; exact H.ownB x hx
  · obtain ⟨x, hx, hb⟩ := List.mem_filterMap.1 h; exact (H.roomB x hx b hb).1
  · obtain ⟨x, hx, rfl⟩ := List.mem_map.1 h; exact H.mp.base x hx

/-- A result's value. -/
def evalRV (tmps : Array Value) : ResultVar → Sem Value
  | .tmp t => pure (tmps.getD t undef)
  | .cell a t => do loadVar t (← asAddr (tmps.getD a undef))
def RV (E : Env) (g : Ctx) (x : ResultVar) (t : A) : Prop := ∀ (r : Rho) (a : Act) (w : World), HoldsAt E g r a w → ∃ v, (evalRV a.tmps x).run E.P w = .ok v w ∧ t.p r v
section
variable {E : Env} {g : Ctx} {t u : A}
theorem RV.tmp {s : Nat} (hs : look g.sl s = some (true, u)) (h : Imp u t) : RV E g (.tmp s) t := fun r a w H => ⟨_, rfl, h _ _ ((H.slots s true u hs).1 rfl)⟩
theorem RV.cell (i : Nat) {s T b tb : Nat} {cells : List A} (hs : look g.sl s = some (true, A.val (.pointer (some ⟨b, 0, none⟩)))) (hT : TA E.P T) (hi : g.own[i]? = some (b, tb, cells)) (hc : cells[0]? = some u) (h : Imp u t) : RV E g (.cell s T) t := fun r a w H => by
  have hp : a.tmps.getD s undef = .pointer (some ⟨b, 0, none⟩) := (H.slots s true _ hs).1 rfl
  obtain ⟨_, vs, hb, hv⟩ := H.own _ (List.mem_of_getElem? hi)
  obtain ⟨v, hv1, hq⟩ := hv.get 0 u hc
  have hv2 : vs[0]? = some v := by simpa using hv1
  have hcell : w.cell? ⟨b, 0, none⟩ = some v := by simp [World.cell?, hb, hv2]
  refine ⟨v, ?_, h _ _ hq⟩
  have hp' : a.tmps[s]?.getD undef = .pointer (some ⟨b, 0, none⟩) := by simpa using hp
  simp [evalRV, hp', asAddr, loadVar, hT.isAgg, hcell]
theorem RV.cellg (i : Nat) {s T k b tb : Nat} {cells : List A} (hs : look g.sl s = some (true, A.val (.pointer (some ⟨b, 0, none⟩)))) (hT : TG E.P T k) (hi : g.own[i]? = some (b, tb, cells)) (hl : cells.length = k) (h : Imp (A.agg cells) t) : RV E g (.cell s T) t := fun r a w H => by
  have hp : a.tmps.getD s undef = .pointer (some ⟨b, 0, none⟩) := (H.slots s true _ hs).1 rfl
  obtain ⟨_, vs, hb, hv⟩ := H.own _ (List.mem_of_getElem? hi)
  have hlen := hv.length
  have hrun := run_loadCells_list (P := E.P) w ⟨b, 0, none⟩ vs.toList (fun j v hj => by
    rw [add_off, Nat.zero_add]
    have : vs[j]? = some v := by simpa using hj
    simp [World.cell?, hb, this])
  have e1 : vs.toList.length = k := by rw [← hlen, hl]
  rw [e1] at hrun
  refine ⟨.agg vs, ?_, h _ _ ⟨vs, rfl, hv⟩⟩
  have hp' : a.tmps[s]?.getD undef = .pointer (some ⟨b, 0, none⟩) := by simpa using hp
  simp [evalRV, hp', asAddr, loadVar, hT.isAgg, run_sizeOf hT.2, hrun]
end
theorem results_eq (fn : Func) (tmps : Array Value) : results fn tmps = (do let vs ← fn.results.mapM (evalRV tmps); pure (if h : vs.size = 1 then vs[0] else .tuple vs)) := rfl
/-- The results' values. -/
def ResOk (E : Env) (g : Ctx) (fn : Func) (t : A) : Prop := ∀ (r : Rho) (a : Act) (w : World), HoldsAt E g r a w → ∃ v, (results fn a.tmps).run E.P w = .ok v w ∧ t.p r v
section
variable {E : Env} {g : Ctx} {fn : Func} {x1 x2 x3 x4 : ResultVar} {t t1 t2 t3 t4 : A}
theorem Res0 (hr : fn.results = #[]) : ResOk E g fn A.any := fun r a w _ => ⟨.tuple #[], by simp [results_eq, hr], trivial⟩
theorem Res1 (hr : fn.results = #[x1]) (h1 : RV E g x1 t) : ResOk E g fn t := fun r a w H => by
  obtain ⟨v, e, h⟩ := h1 r a w H
  exact ⟨v, by simp [results_eq, hr, e], h⟩
theorem Res2 (hr : fn.results = #[x1, x2]) (h1 : RV E g x1 t1) (h2 : RV E g x2 t2) : ResOk E g fn (A.tup [t1, t2]) := fun r a w H => by
  obtain ⟨v1, e1, k1⟩ := h1 r a w H
  obtain ⟨v2, e2, k2⟩ := h2 r a w H
  exact ⟨.tuple #[v1, v2], by simp [results_eq, hr, e1, e2], _, rfl, k1, k2, trivial⟩
theorem Res3 (hr : fn.results = #[x1, x2, x3]) (h1 : RV E g x1 t1) (h2 : RV E g x2 t2) (h3 : RV E g x3 t3) : ResOk E g fn (A.tup [t1, t2, t3]) := fun r a w H => by
  obtain ⟨v1, e1, k1⟩ := h1 r a w H
  obtain ⟨v2, e2, k2⟩ := h2 r a w H
  obtain ⟨v3, e3, k3⟩ := h3 r a w H
  exact ⟨.tuple #[v1, v2, v3], by simp [results_eq, hr, e1, e2, e3], _, rfl, k1, k2, k3, trivial⟩
theorem Res4 (hr : fn.results = #[x1, x2, x3, x4]) (h1 : RV E g x1 t1) (h2 : RV E g x2 t2) (h3 : RV E g x3 t3) (h4 : RV E g x4 t4) : ResOk E g fn (A.tup [t1, t2, t3, t4]) := fun r a w H => by
  obtain ⟨v1, e1, k1⟩ := h1 r a w H
  obtain ⟨v2, e2, k2⟩ := h2 r a w H
  obtain ⟨v3, e3, k3⟩ := h3 r a w H
  obtain ⟨v4, e4, k4⟩ := h4 r a w H
  exact ⟨.tuple #[v1, v2, v3, v4], by simp [results_eq, hr, e1, e2, e3, e4], _, rfl, k1, k2, k3, k4, trivial⟩
end
def isRet : Exit → Bool
  | .ret | .normal => true
  | _ => false
theorem Ret {E : Env} {g : Ctx} {fn : Func} {t : A} {R : Ending → World → Prop} {e : Exit} (he : isRet e = true) (hv : ResOk E g.bare fn t)
    (hR : ∀ r a w v, HoldsAt E g.bare r a w → t.p r v → R (.returned v) w) : Fin E g e (bodyPostM (fz none) 9 E.P fn R) := by
  intro a w ⟨_, h2, r, H⟩
  have : LeavesInM (fz none) 9 E.P fn a.tmps R a.defers .returning w := leaves_marks a.defers w h2 H.bare rfl fun w' H' => by
    obtain ⟨v, e, k⟩ := hv r a w' H'
    exact ⟨v, e, hR r a w' v H' k⟩
  cases e <;> first | exact this | cases he
section
variable {P : Program} {n : Nat} {w0 : World} {r0 : Rho} {g : Ctx} {fn : Func} {t u : A} {e : Exit}
theorem RetC (he : isRet e = true) (hv : ResOk (EC P n w0 r0) g.bare fn t) : Fin (EC P n w0 r0) g e (bodyPostM (fz none) 9 P fn (RetPost r0 w0 t)) :=
  Ret (E := EC P n w0 r0) he hv fun r _ _ v H k => ⟨v, r, rfl, H.toGrow, k⟩
theorem RetX_ {T : Type} {m : Mem} {t : T → A} {m' : T → Mem} (x : T) (he : isRet e = true) (hv : ResOk (EX P n w0 r0 m.blk) g.bare fn (t x)) (hm : ∀ r a w, HoldsAt (EX P n w0 r0 m.blk) g.bare r a w → MemOk r w (m' x))
    (hb : ∀ b, (m' x).blk b → Mem.blk ⟨g.own, g.rooms, g.maps⟩ b) : Fin (EX P n w0 r0 m.blk) g e (bodyPostM (fz none) 9 P fn (RetX m r0 w0 t m')) :=
  Ret (E := EX P n w0 r0 m.blk) he hv fun r a w v H k => ⟨v, r, x, rfl, H.toGrowX, k, hm r a w H, fun b h => H.blk (hb b h)⟩
theorem RetK {K : Addr → Prop} (he : isRet e = true) (hv : ResOk (EK P n w0 r0 K) g.bare fn t) (hp : Pure t) : Fin (EK P n w0 r0 K) g e (bodyPostM (fz none) 9 P fn (fun e w' => ∃ v s, e = .returned v ∧ GrowK K r0 w0 s w' ∧ ∀ s', t.p s' v)) :=
  Ret (E := EK P n w0 r0 K) he hv fun r _ _ v H k => ⟨v, r, rfl, H.toGrowK, fun s' => hp _ _ _ k⟩
end

/-- A new block in the ghost heap. -/
theorem Grow.alloc {r : Rho} {w : World} (hok : r.ok w) (cs : Array Value) (ty : TypeId) : ∃ s, Grow r w s (w.alloc (.cells cs ty)) ∧ ∀ (i : Nat) v, cs[i]? = some v → s ⟨w.heap.size, i, none⟩ = some v := by
  refine ⟨fun a => if a.block = w.heap.size ∧ a.spot = none then cs[a.off]? else r a, ⟨?_, ?_, ?_, ?_⟩, ?_⟩
  · intro a v e
    have := Rho.ok_lt hok e
    show (if _ then _ else _) = _
    rw [if_neg (by omega)]; exact e
  · intro a v e
    replace e : (if a.block = w.heap.size ∧ a.spot = none then cs[a.off]? else r a) = some v := e
    by_cases h : a.block = w.heap.size ∧ a.spot = none
    · simp only [h, and_self, if_true] at e
      obtain ⟨b, o, s⟩ := a
      simp at h
      obtain ⟨rfl, rfl⟩ := h
      rw [World.alloc_heap_new]; exact e
    · rw [if_neg h] at e
      rw [Below.heap_alloc _ _ _ (Rho.ok_lt hok e)]; exact hok _ _ e
  · intro a v e
    replace e : (if a.block = w.heap.size ∧ a.spot = none then cs[a.off]? else r a) = some v := e
    by_cases h : a.block = w.heap.size ∧ a.spot = none
    · refine .inr ⟨by omega, fun cs' ty' fr e' => ?_⟩
      rw [h.1, World.alloc_heap_new] at e'
      cases e'; rfl
    · rw [if_neg h] at e; exact .inl e
  · exact (Below.refl _ _).alloc (Nat.le_refl _) _
  · intro i v e
    simp [e]

theorem run_newVar {P : Program} {w : World} {t : TypeId} {v : Value} : (newVar t v).run P w = .ok ⟨w.heap.size, 0, none⟩ (w.alloc (.cells v.cells t)) := by
  simp [newVar, newRow]

/-- Not a value of several cells. -/
def OneCell (t : A) : Prop := ∀ r v, t.p r v → v.cells = #[v]
theorem OneCell.int {n : Int} : OneCell (A.int n) := fun _ _ h => by cases h; rfl
theorem OneCell.bool {n : Bool} : OneCell (A.bool n) := fun _ _ h => by cases h; rfl
theorem OneCell.sl {T : Type} {k : Nat} {f : T → List A} {L : List T} : OneCell (A.sl k f L) := fun _ _ ⟨_, _, _, h, _⟩ => by rw [h]; rfl
theorem OneCell.pt {l : List A} : OneCell (A.pt l) := fun _ _ ⟨_, _, h, _⟩ => by rw [h]; rfl

section
variable {P : Program} {own : OC} {ty T : TypeId} {x : Operand}
theorem box_good {r : Rho} {w : World} (hok : r.ok w) {cells : List A} {v : Value} (h : All2 r cells v.cells.toList) : Good P r w (A.pt cells) (((Instr.box T v).run P w).andThen fun v w => .ok (.value v) w) := by
  simp only [Instr.box, Sem.run_bind, run_newVar, Result.andThen_ok, Sem.run_pure]
  obtain ⟨s, g, hs⟩ := Grow.alloc hok v.cells T
  refine ⟨s, g, w.heap.size, 0, rfl, fun i c hi => ?_⟩
  obtain ⟨u, hu, hp⟩ := h.get i c hi
  exact ⟨u, by rw [Nat.zero_add]; exact hs i u (by simpa using hu), c.mono g.le hp⟩
theorem O_boxg {cells : List A} : OpN P own [(true, x, A.agg cells)] (.box T x) ty (A.pt cells) := fun r w a hok _ hn => by
  obtain ⟨vs, hx, hc⟩ := hn (true, x, A.agg cells) (by simp) rfl
  have hx : a.eval x = .agg vs := hx
  simp only [exec, execOp, hx, Sem.run_bind, Sem.run_pure]
  exact box_good hok hc
theorem O_box1 {t : A} (h1 : OneCell t) : OpN P own [(true, x, t)] (.box T x) ty (A.pt [t]) := fun r w a hok _ hn => by
  have hx : t.p r (a.eval x) := hn (true, x, t) (by simp) rfl
  simp only [exec, execOp, Sem.run_bind, Sem.run_pure]
  refine box_good hok ?_
  rw [h1 _ _ hx]
  exact ⟨hx, trivial⟩
end
end Go.L
/-! Owned blocks: laid, written, read, frozen. -/
namespace Go.L
open Go Go.RowKit

/-- The zero value's cells of a type. -/
def zeroCellsOf (P : Program) (t : TypeId) : Option (List Value) := ((P.info? t).bind (·.zero)).map (·.cells.toList)
def TZ (P : Program) (t : TypeId) (zs : List Value) : Prop := zeroCellsOf P t = some zs
theorem TZ.run {P : Program} {t : TypeId} {zs : List Value} (h : TZ P t zs) : ∃ z, z.cells.toList = zs ∧ ∀ w, (zeroValue t).run P w = .ok z w := by
  unfold TZ zeroCellsOf at h
  cases hi : P.info? t with
  | none => simp [hi] at h
  | some i =>
    cases hz : i.zero with
    | none => simp [hi, hz] at h
    | some z =>
      simp [hi, hz] at h
      exact ⟨z, by simpa using h, fun w => by simp [zeroValue, typeInfo, hi, hz]⟩

theorem All2.vals {r : Rho} : ∀ (zs : List Value), All2 r (zs.map A.val) zs
  | [] => trivial
  | _ :: zs => ⟨rfl, All2.vals zs⟩

theorem RoomOk.lt {r : Rho} {w : World} {x : Value × Nat × Nat} (h : RoomOk r w x) {b : Nat} (hb : roomBlock x.1 = some b) : b < w.heap.size := by
  unfold RoomOk at h
  unfold roomBlock at hb
  split at hb
  · rename_i a n c e
    simp only [e] at h
    obtain ⟨_, _, _, _, ⟨vs, h5, _⟩, _⟩ := h
    cases hb
    exact (Array.getElem?_eq_some_iff.1 h5).1
  · cases hb

/-- A new owned block. -/
theorem HoldsAt.allocOwn {E : Env} {g : Ctx} {r : Rho} {a : Act} {w : World} (H : HoldsAt E g r a w) (cs : Array Value) (ty : TypeId) {cells : List A} (hc : All2 r cells cs.toList) :
    HoldsAt E { g with own := (w.heap.size, ty, cells) :: g.own } r a (w.alloc (.cells cs ty)) := by
  have gr : Grow r w r (w.alloc (.cells cs ty)) := Grow.same H.ok ((Below.refl _ _).alloc (Nat.le_refl _) _)
  have H' := H.grow gr (a' := a) H.slots
  have hnone : ∀ o s, r ⟨w.heap.size, o, s⟩ = none := fun o s => by
    cases e : r ⟨w.heap.size, o, s⟩ with
    | none => rfl
    | some v => exact absurd (Rho.ok_lt H.ok e) (by simp)
  exact { H' with
    own := fun x hx => by
      rcases List.mem_cons.1 hx with rfl | hx
      · exact ⟨hnone, cs, World.alloc_heap_new w _, hc⟩
      · exact H'.own x hx
    ownB := fun x hx => by
      rcases List.mem_cons.1 hx with rfl | hx
      · exact .inr H.size
      · exact H'.ownB x hx
    nodup := by
      rw [List.map_cons, List.nodup_cons]
      refine ⟨fun hm => ?_, H'.nodup⟩
      obtain ⟨x, hx, e⟩ := List.mem_map.1 hm
      have := (H.own x hx).lt
      omega
    roomB := fun x hx b hb => by
      have := H'.roomB x hx b hb
      refine ⟨this.1, fun hm => ?_⟩
      rw [List.map_cons, List.mem_cons] at hm
      rcases hm with rfl | hm
      · have := (H.room x hx).lt hb; omega
      · exact this.2 hm }

theorem setCell_eq {w : World} {b o : Nat} {cs : Array Value} {ty : TypeId} {v : Value} (h : w.heap[b]? = some (.cells cs ty (0, 0))) :
    w.setCell ⟨b, o, none⟩ v = w.putObj b (.cells (cs.setIfInBounds o v) ty (0, 0)) := by
  unfold World.setCell World.putObj
  congr 1
  apply Array.ext_getElem?
  intro k
  rw [Array.getElem?_modify]
  by_cases hk : b = k
  · subst hk
    obtain ⟨hlt, he⟩ := Array.getElem?_eq_some_iff.1 h
    simp [he, hlt]
  · rw [if_neg hk, Array.getElem?_setIfInBounds_ne hk]

/-- cs with vs laid over it from o on. -/
def over {S : Type} (cs : List S) (o : Nat) (vs : List S) : List S := cs.take o ++ vs ++ cs.drop (o + vs.length)
theorem over_length {S : Type} {cs vs : List S} {o : Nat} (h : o + vs.length ≤ cs.length) : (over cs o vs).length = cs.length := by
  unfold over; simp; omega

theorem over_cons {S : Type} (L : List S) (o : Nat) (v : S) (vs : List S) (h : o < L.length) : over (L.set o v) (o + 1) vs = over L o (v :: vs) := by
  unfold over
  rw [List.take_succ_eq_append_getElem (by simpa using h), List.take_set_of_le (Nat.le_refl _), List.getElem_set_self, List.drop_set_of_lt (by omega)]
  simp [Nat.add_assoc, Nat.add_comm 1]

theorem putObj_putObj {w : World} {b : Nat} {o o' : Obj} : (w.putObj b o).putObj b o' = w.putObj b o' := by
  unfold World.putObj; simp
theorem putObj_self {w : World} {b : Nat} {o : Obj} (h : w.heap[b]? = some o) : w.putObj b o = w := by
  unfold World.putObj
  have : w.heap.setIfInBounds b o = w.heap := by
    apply Array.ext_getElem?
    intro k
    by_cases hk : b = k
    · subst hk; obtain ⟨hlt, he⟩ := Array.getElem?_eq_some_iff.1 h; simp [he, hlt]
    · rw [Array.getElem?_setIfInBounds_ne hk]
  rw [this]

theorem run_storeCells {P : Program} {b off : Nat} {ty : TypeId} : ∀ (vs : List Value) (i : Nat) (cs : Array Value) (w : World), w.heap[b]? = some (.cells cs ty (0, 0)) → off + i + vs.length ≤ cs.size → (∀ v ∈ vs, v.oneCell' = true) →
    (storeCells ⟨b, off, none⟩ vs i).run P w = .ok () (w.putObj b (.cells (over cs.toList (off + i) vs).toArray ty (0, 0)))
  | [], i, cs, w, h, _, _ => by
    simp only [storeCells, Sem.run_pure]
    have : (over cs.toList (off + i) []).toArray = cs := by simp [over]
    rw [this, putObj_self h]
  | v :: vs, i, cs, w, h, hl, ho => by
    simp only [List.length_cons] at hl
    have hc : w.cell? ⟨b, off + i, none⟩ = some (cs[off + i]'(by omega)) := by
      simp [World.cell?, h]
    have hf : w.frozen? ⟨b, off + i, none⟩ = false := by simp [World.frozen?, h]
    simp only [storeCells, Sem.run_bind, add_off, run_store P w _ v .plain (ho v (by simp)), hc, hf, Bool.false_eq_true, if_false, Result.andThen_ok]
    rw [setCell_eq h]
    have hlt := (Array.getElem?_eq_some_iff.1 h).1
    rw [run_storeCells vs (i + 1) _ _ (World.putObj_heap_same hlt) (by simp; omega) (fun u hu => ho u (by simp [hu])), putObj_putObj]
    rw [Array.toList_setIfInBounds, ← Nat.add_assoc, over_cons _ _ _ _ (by simp; omega)]

/-- A value of one cell that may be stored. -/
def OneV (t : A) : Prop := ∀ r v, t.p r v → v.cells = #[v] ∧ v.oneCell' = true
theorem OneV.int {n : Int} : OneV (A.int n) := fun _ _ h => by cases h; exact ⟨rfl, rfl⟩
theorem OneV.bool {n : Bool} : OneV (A.bool n) := fun _ _ h => by cases h; exact ⟨rfl, rfl⟩
theorem OneV.ptr {x : Option Addr} : OneV (A.val (.pointer x)) := fun _ _ h => by cases h; exact ⟨rfl, rfl⟩
theorem OneV.slv {x : Option Addr} {n c : Nat} : OneV (A.val (.slice x n c)) := fun _ _ h => by cases h; exact ⟨rfl, rfl⟩
theorem OneV.sl {T : Type} {k : Nat} {f : T → List A} {L : List T} : OneV (A.sl k f L) := fun _ _ ⟨_, _, _, h, _⟩ => by rw [h]; exact ⟨rfl, rfl⟩
theorem OneV.pt {l : List A} : OneV (A.pt l) := fun _ _ ⟨_, _, h, _⟩ => by rw [h]; exact ⟨rfl, rfl⟩
/-- A value whose cells meet l, each of one cell. -/
def CellsOf (t : A) (l : List A) : Prop := ∀ r v, t.p r v → All2 r l v.cells.toList ∧ ∀ u ∈ v.cells.toList, u.oneCell' = true
theorem CellsOf.one {t : A} (h : OneV t) : CellsOf t [t] := fun r v k => by
  obtain ⟨h1, h2⟩ := h r v k
  rw [h1]
  exact ⟨⟨k, trivial⟩, by simpa using h2⟩
def AllOne : List A → Prop
  | [] => True
  | t :: l => OneV t ∧ AllOne l
theorem AllOne.all {r : Rho} : ∀ {l : List A} {vs : List Value}, AllOne l → All2 r l vs → ∀ u ∈ vs, u.oneCell' = true
  | [], [], _, _ => by simp
  | t :: l, v :: vs, h, k => by
    intro u hu
    rcases List.mem_cons.1 hu with rfl | hu
    · exact (h.1 r u k.1).2
    · exact AllOne.all h.2 k.2 u hu
  | [], _ :: _, _, k => k.elim
  | _ :: _, [], _, k => k.elim
theorem CellsOf.agg {l : List A} (h : AllOne l) : CellsOf (A.agg l) l := fun r v ⟨vs, e, k⟩ => by
  subst e
  exact ⟨k, AllOne.all h k⟩

theorem All2.over {r : Rho} {cells l : List A} {vs us : List Value} {o : Nat} (h : All2 r cells vs) (k : All2 r l us) (hle : o + l.length ≤ cells.length) : All2 r (over cells o l) (over vs o us) := by
  have h1 := h.length
  have h2 := k.length
  have ha : All2 r (cells.take o) (vs.take o) := by
    have : cells = cells.take o ++ cells.drop o := (List.take_append_drop o cells).symm
    rw [this] at h
    have := h.split.1
    rwa [List.length_take, Nat.min_eq_left (by omega)] at this
  have hb : All2 r (cells.drop (o + l.length)) (vs.drop (o + us.length)) := by
    have : cells = cells.take (o + l.length) ++ cells.drop (o + l.length) := (List.take_append_drop _ cells).symm
    rw [this] at h
    have := h.split.2
    rw [List.length_take, Nat.min_eq_left (by omega)] at this
    rwa [← h2]
  exact (ha.append k).append hb

/-- An owned block is written. -/
theorem HoldsAt.putOwn {E : Env} {g : Ctx} {r : Rho} {a : Act} {w : World} (H : HoldsAt E g r a w) {i b ty : Nat} {cells cells' : List A} (hi : g.own[i]? = some (b, ty, cells)) {cs : Array Value}
    (hc : All2 r cells' cs.toList) :
    HoldsAt E { g with own := g.own.set i (b, ty, cells') } r a (w.putObj b (.cells cs ty (0, 0))) := by
  have hmem := List.mem_of_getElem? hi
  have hb := H.own _ hmem
  have hlt := hb.lt
  have hne : ∀ x ∈ g.own.set i (b, ty, cells'), x = (b, ty, cells') ∨ (x ∈ g.own ∧ x.1 ≠ b) := by
    intro x hx
    obtain ⟨j, hj, e⟩ := List.getElem_of_mem hx
    rw [List.getElem_set] at e
    by_cases hij : i = j
    · rw [if_pos hij] at e; exact .inl e.symm
    · rw [if_neg hij] at e
      have hj' : j < g.own.length := by simpa using hj
      refine .inr ⟨e ▸ List.getElem_mem hj', fun hxb => hij ?_⟩
      have hil : i < g.own.length := (List.getElem?_eq_some_iff.1 hi).1
      refine (List.getElem?_inj (by simpa using hil) H.nodup).1 ?_
      rw [List.getElem?_map, hi, List.getElem?_map, List.getElem?_eq_getElem hj', e]
      simp [hxb]
  have hmap : (g.own.set i (b, ty, cells')).map (·.1) = g.own.map (·.1) := by
    rw [List.map_set]
    apply List.ext_getElem?
    intro k
    rw [List.getElem?_set]
    split
    · rename_i e; subst e; simp [hi]; exact (List.getElem?_eq_some_iff.1 hi).1
    · rfl
  have other : ∀ k, k ≠ b → (w.putObj b (.cells cs ty (0, 0))).heap[k]? = w.heap[k]? := fun k hk => World.putObj_heap_other hk
  have hX : E.base b := H.ownB _ hmem
  exact {
    le := H.le
    cps := H.cps
    ok := fun x v e => by
      have hxb : x.block ≠ b := fun e' => by
        have := hb.1 x.off x.spot
        rw [← e'] at this
        have e2 : r x = none := this
        rw [e2] at e; cases e
      rw [other _ hxb]; exact H.ok x v e
    fresh := fun x v e => (H.fresh x v e).elim .inl fun q => .inr ⟨q.1, by
      by_cases hxb : x.block = b
      · intro cs' ty' fr e'
        rw [hxb, World.putObj_heap_same hlt] at e'; cases e'; rfl
      · exact q.2.same (other _ hxb)⟩
    size := by rw [World.putObj_size]; exact H.size
    block := fun k hk hx => by
      have hkb : k ≠ b := fun e => by subst e; rcases hX with q | q; exact hx q; omega
      rw [other k hkb]; exact H.block k hk hx
    unf := fun k hk hu => by
      by_cases hkb : k = b
      · intro cs' ty' fr e'
        rw [hkb, World.putObj_heap_same hlt] at e'; cases e'; rfl
      · exact (H.unf k hk hu).same (other k hkb)
    os := H.os
    tape := H.tape
    output := H.output
    slots := H.slots
    own := fun x hx => by
      rcases hne x hx with rfl | ⟨h1, h2⟩
      · exact ⟨hb.1, cs, World.putObj_heap_same hlt, hc⟩
      · obtain ⟨k1, vs, k2, k3⟩ := H.own x h1
        exact ⟨k1, vs, by rw [other _ h2]; exact k2, k3⟩
    ownB := fun x hx => by
      rcases hne x hx with rfl | ⟨h1, _⟩
      · exact hX
      · exact H.ownB x h1
    nodup := by rw [hmap]; exact H.nodup
    room := fun x hx => by
      have := H.room x hx
      have hnb : ∀ b', roomBlock x.1 = some b' → b' ≠ b := fun b' e e' => by
        subst e'
        exact (H.roomB x hx _ e).2 (List.mem_map.2 ⟨_, hmem, rfl⟩)
      unfold RoomOk at this ⊢
      split at this
      · exact this
      · rename_i ad n c e
        obtain ⟨h1, h2, h3, h4, ⟨vs, h5, h6⟩, h7⟩ := this
        exact ⟨h1, h2, h3, h4, ⟨vs, by rw [other _ (hnb _ (by rw [e]; rfl))]; exact h5, h6⟩, h7⟩
      · exact this
    roomB := fun x hx b' e => by rw [hmap]; exact H.roomB x hx b' e
    roomN := H.roomN
    mp := H.mp.stay (fun _ _ h => h) H.mp.un fun k o ho hk => by
      have hkb : k ≠ b := fun e => by
        subst e
        obtain ⟨_, vs, k2, _⟩ := hb
        rw [k2] at hk; cases hk; cases ho
      rw [other k hkb]; exact hk }

theorem Marks.putOwn {E : Env} {w : World} {b : Nat} {o : Obj} (hb : ∀ ds, w.heap[b]? ≠ some (.deferred ds)) : ∀ {l : List Deferred}, Marks E w l → Marks E (w.putObj b o) l
  | [], _ => trivial
  | _ :: _, ⟨⟨b', h1, h2, h3, h4⟩, k⟩ => ⟨⟨b', h1, h2, by rw [World.putObj_heap_other (fun e => by subst e; exact hb _ h3)]; exact h3, h4⟩, Marks.putOwn hb k⟩

section
variable {E : Env} {g : Ctx} {Q : Exit → Act → World → Prop} {ops : Array Oper} {rest : List Oper}

theorem wpListIn_value {F : Fence} {n : Nat} {P : Program} {o : Oper} {a : Act} {w w' : World} {v : Value} (hg : o.guard = none) (hd : ∀ c, o.op ≠ .defer c) (hF : ∀ f, F.fn f) (h : (execOp a.eval o).run P w = .ok (.value v) w')
    (k : wpListIn F n P ops Q rest (a.put o.dst v) w') : wpListIn F n P ops Q (o :: rest) a w :=
  wpListIn_plain hg fun K hK => by
    refine ⟨fun f _ => hF f, ?_⟩
    rw [Oper.semAt_eq _ _ _ hd, h]
    exact hK _ _ k
theorem wpListIn_unit {F : Fence} {n : Nat} {P : Program} {o : Oper} {a : Act} {w w' : World} (hg : o.guard = none) (hd : ∀ c, o.op ≠ .defer c) (hF : ∀ f, F.fn f) (h : (execOp a.eval o).run P w = .ok .skip w')
    (k : wpListIn F n P ops Q rest (a.put o.dst undef) w') : wpListIn F n P ops Q (o :: rest) a w :=
  wpListIn_plain hg fun K hK => by
    refine ⟨fun f _ => hF f, ?_⟩
    rw [Oper.semAt_eq _ _ _ hd, h]
    exact hK _ _ k

/-- A variable of the function's own. -/
theorem WL_alloc {d T : Nat} {ty : TypeId} {pos : String} {aft : Array Edge} {zs : List Value} (hz : TZ E.P T zs) (hd : Nat.ble (d + 1) E.n = true)
    (h : ∀ b, WL E ops rest { g with sl := (d, true, A.val (.pointer (some ⟨b, 0, none⟩))) :: g.sl, own := (b, T, zs.map A.val) :: g.own } Q) :
    WL E ops (⟨some d, .alloc T, ty, pos, aft, none⟩ :: rest) g Q := by
  intro a w ⟨h1, h2, r, H⟩
  obtain ⟨z, hzc, hzr⟩ := hz.run
  have hrun : (execOp a.eval ⟨some d, .alloc T, ty, pos, aft, none⟩).run E.P w = .ok (.value (.pointer (some ⟨w.heap.size, 0, none⟩))) (w.alloc (.cells z.cells T)) := by
    simp [execOp, Instr.alloc, hzr, run_newVar]
  refine wpListIn_value rfl (by simp) (fun _ => trivial) hrun (h w.heap.size _ _ ⟨by rw [size_put]; exact h1, ?_, r, ?_⟩)
  · rw [defers_put]
    exact h2.grow H (Grow.same H.ok ((Below.refl _ _).alloc (Nat.le_refl _) _))
  · have hlt : d < a.tmps.size := by rw [h1]; exact Nat.le_of_ble_eq_true hd
    have H' := H.allocOwn z.cells T (cells := zs.map A.val) (by rw [hzc]; exact All2.vals zs)
    exact { H' with slots := Slots.put H'.slots hlt (fun _ => rfl) (fun hc => by cases hc) }

/-- A store into an owned block. -/
theorem WL_store (i : Nat) {T : Nat} {ad x : Operand} {ty : TypeId} {pos : String} {aft : Array Edge} {b tb off : Nat} {cells l : List A} {t : A} (hi : g.own[i]? = some (b, tb, cells))
    (hr : Reads g.sl true [(true, ad, A.val (.pointer (some ⟨b, off, none⟩))), (true, x, t)]) (hc : CellsOf t l) (hs : sizeAt E.P T = some l.length) (hle : off + l.length ≤ cells.length)
    (h : WL E ops rest { g with own := g.own.set i (b, tb, over cells off l) } Q) :
    WL E ops (⟨none, .store T ad x, ty, pos, aft, none⟩ :: rest) g Q := by
  intro a w ⟨h1, h2, r, H⟩
  have hu := hr.use rfl H.slots
  have had : a.eval ad = .pointer (some ⟨b, off, none⟩) := hu (true, ad, A.val (.pointer (some ⟨b, off, none⟩))) (by simp) rfl
  have hx : t.p r (a.eval x) := hu (true, x, t) (by simp) rfl
  obtain ⟨k1, k2⟩ := hc r _ hx
  have hown := H.own _ (List.mem_of_getElem? hi)
  obtain ⟨ho, vs, hb, hv⟩ := hown
  have hl1 := k1.length
  have hl2 := hv.length
  have hrun : (execOp a.eval ⟨none, .store T ad x, ty, pos, aft, none⟩).run E.P w = .ok .skip (w.putObj b (.cells (over vs.toList off (a.eval x).cells.toList).toArray tb (0, 0))) := by
    have hsz : (a.eval x).cells.size = l.length := by rw [hl1]; simp
    have := run_storeCells (P := E.P) (off := off) (a.eval x).cells.toList 0 vs w hb (by simp at hl1 hl2 ⊢; omega) k2
    simp only [Nat.add_zero] at this
    simp [execOp, had, Instr.storeAt, Instr.sureAddr, storeVar, run_sizeOf hs, hsz, this]
  refine wpListIn_unit rfl (by simp) (fun _ => trivial) hrun (h _ _ ⟨h1, ?_, r, ?_⟩)
  · exact h2.putOwn (fun ds e => by rw [hb] at e; cases e)
  · refine H.putOwn hi (cells' := over cells off l) ?_ 
    have := hv.over (o := off) k1 hle
    simpa using this

/-- What the frozen block's cells give to a slot. -/
theorem WL_freeze {l : List Oper} (i : Nat) {b tb : Nat} {cells : List A} (hi : g.own[i]? = some (b, tb, cells)) (s : Nat) {v : Value} {u : A} (hs : look g.sl s = some (true, A.val v))
    (hu : ∀ r, (∀ c ∈ g.cps, c.le r ∧ ∀ o s, c ⟨b, o, s⟩ = none) → A.CellsAt r b 0 cells → u.p r v) (h : WL E ops l { g with sl := (s, true, u) :: g.sl, own := g.own.eraseIdx i } Q) : WL E ops l g Q := by
  intro a w ⟨h1, h2, r, H⟩
  have hmem := List.mem_of_getElem? hi
  obtain ⟨ho, vs, hb, hv⟩ := H.own _ hmem
  have hge : E.base b := H.ownB _ hmem
  have hunf : Unf w b := fun cs' ty' fr e => by rw [hb] at e; cases e; rfl
  let r' : Rho := fun x => if x.block = b ∧ x.spot = none then vs[x.off]? else r x
  have hle : r.le r' := fun x v e => by
    show (if _ then _ else _) = _
    rw [if_neg]; exact e
    rintro ⟨e1, e2⟩
    have := ho x.off none
    have e3 : x = ⟨b, x.off, none⟩ := by cases x; simp_all
    rw [e3, this] at e; cases e
  have hsub : ∀ x ∈ g.own.eraseIdx i, x ∈ g.own ∧ x.1 ≠ b := by
    intro x hx
    refine ⟨List.mem_of_mem_eraseIdx hx, fun e => ?_⟩
    obtain ⟨j, hj, e'⟩ := List.mem_eraseIdx_iff_getElem?.1 hx
    have hil : i < g.own.length := (List.getElem?_eq_some_iff.1 hi).1
    refine hj ((List.getElem?_inj (by simpa using hil) H.nodup).1 ?_).symm
    rw [List.getElem?_map, hi, List.getElem?_map, e']
    simp [e]
  have hother : ∀ x : Addr, x.block ≠ b → r' x = r x := fun x hx => by
    show (if _ then _ else _) = _
    rw [if_neg (fun q => hx q.1)]
  have hcell : ∀ (k : Nat), r' ⟨b, k, none⟩ = vs[k]? := fun k => by
    show (if _ then _ else _) = _
    rw [if_pos ⟨rfl, rfl⟩]
  have hat : A.CellsAt r' b 0 cells := fun k c hk => by
    obtain ⟨y, hy, hp⟩ := hv.get k c hk
    exact ⟨y, by rw [hcell, Nat.zero_add]; simpa using hy, c.mono hle hp⟩
  refine h a w ⟨h1, h2, r', ?_⟩
  exact {
    le := H.le.trans_le hle
    cps := fun c hc => Rho.le_trans (H.cps c hc) hle
    ok := fun x y e => by
      by_cases q : x.block = b ∧ x.spot = none
      · have e : (if x.block = b ∧ x.spot = none then vs[x.off]? else r x) = some y := e
        rw [if_pos q] at e
        unfold gc
        rw [q.1, hb]
        simp [q.2, e]
      · have e : (if x.block = b ∧ x.spot = none then vs[x.off]? else r x) = some y := e
        rw [if_neg q] at e
        exact H.ok x y e
    fresh := fun x y e => by
      by_cases q : x.block = b ∧ x.spot = none
      · exact .inr ⟨q.1 ▸ hge, q.1 ▸ hunf⟩
      · have e : (if x.block = b ∧ x.spot = none then vs[x.off]? else r x) = some y := e
        rw [if_neg q] at e
        exact H.fresh x y e
    size := H.size
    block := H.block
    unf := H.unf
    os := H.os
    tape := H.tape
    output := H.output
    slots := fun s' c x e => by
      unfold look at e
      by_cases q : s = s'
      · subst q
        simp at e
        obtain ⟨rfl, rfl⟩ := e
        refine ⟨fun _ => ?_, fun e => by cases e⟩
        have : a.tmps.getD s undef = v := (H.slots s true _ hs).1 rfl
        rw [this]
        refine hu r' (fun c hc => ⟨Rho.le_trans (H.cps c hc) hle, fun o sp => ?_⟩) hat
        cases e2 : c ⟨b, o, sp⟩ with
        | none => rfl
        | some y => have e3 := H.cps c hc _ _ e2; rw [ho o sp] at e3; cases e3
      · rw [if_neg (by simpa using q)] at e
        have := H.slots s' c x e
        exact ⟨fun hc => x.mono hle (this.1 hc), this.2⟩
    own := fun x hx => by
      obtain ⟨q1, q2⟩ := hsub x hx
      obtain ⟨k1, vs', k2, k3⟩ := H.own x q1
      exact ⟨fun o sp => by rw [hother _ q2]; exact k1 o sp, vs', k2, k3.mono hle⟩
    ownB := fun x hx => H.ownB x (hsub x hx).1
    nodup := H.nodup.sublist ((List.eraseIdx_sublist g.own i).map _)
    room := fun x hx => by
      have := H.room x hx
      have hnb : ∀ b', roomBlock x.1 = some b' → b' ≠ b := fun b' e e' => by
        subst e'
        exact (H.roomB x hx _ e).2 (List.mem_map.2 ⟨_, hmem, rfl⟩)
      unfold RoomOk at this ⊢
      split at this
      · exact this
      · rename_i ad n c e
        obtain ⟨h1, h2, h3, h4, h5, h7⟩ := this
        exact ⟨h1, h2, h3, h4, h5, fun o sp ho => by rw [hother _ (hnb _ (by rw [e]; rfl))]; exact h7 o sp ho⟩
      · exact this
    roomB := fun x hx b' e => ⟨(H.roomB x hx b' e).1, fun hm => (H.roomB x hx b' e).2 (by
      obtain ⟨y, hy, e2⟩ := List.mem_map.1 hm
      exact List.mem_map.2 ⟨y, (hsub y hy).1, e2⟩)⟩
    roomN := H.roomN
    mp := H.mp.stay hle (fun x hx o sp => by
      have hne : x.1 ≠ b := fun e => by
        obtain ⟨arr, cl, h1, _⟩ := H.mp.at_ x hx
        rw [e, hb] at h1; cases h1
      rw [hother _ hne]; exact H.mp.un x hx o sp) fun _ _ _ h => h }

/-- A loaded cell of an owned block. -/
theorem O_loado (i : Nat) {P : Program} {own : OC} {ty T : TypeId} {x : Operand} {b tb off : Nat} {cells : List A} {c : A} (h : TA P T) (hi : own.own[i]? = some (b, tb, cells)) (hc : cells[off]? = some c) :
    OpN P own [(true, x, A.val (.pointer (some ⟨b, off, none⟩)))] (.load T x) ty c := fun r w a hok hown hn => by
  have hx : a.eval x = .pointer (some ⟨b, off, none⟩) := hn (true, x, _) (List.mem_singleton.2 rfl) rfl
  obtain ⟨_, vs, hb, hv⟩ := hown.own _ (List.mem_of_getElem? hi)
  obtain ⟨v, hv1, hp⟩ := hv.get off c hc
  have hcell : w.cell? ⟨b, off, none⟩ = some v := by
    have : vs[off]? = some v := by simpa using hv1
    simp [World.cell?, hb, this]
  simp only [exec, execOp, hx, Sem.run_bind, run_loadAt_atom h hcell, Result.andThen_ok, Sem.run_pure]
  exact Good.here hok hp
theorem O_loadog (i : Nat) {P : Program} {own : OC} {ty T n : TypeId} {x : Operand} {b tb off : Nat} {cells : List A} (h : TG P T n) (hi : own.own[i]? = some (b, tb, cells)) (hl : off + n ≤ cells.length) :
    OpN P own [(true, x, A.val (.pointer (some ⟨b, off, none⟩)))] (.load T x) ty (A.agg ((cells.drop off).take n)) := fun r w a hok hown hn => by
  have hx : a.eval x = .pointer (some ⟨b, off, none⟩) := hn (true, x, _) (List.mem_singleton.2 rfl) rfl
  obtain ⟨_, vs, hb, hv⟩ := hown.own _ (List.mem_of_getElem? hi)
  have hlen := hv.length
  have h3 : All2 r ((cells.drop off).take n) ((vs.toList.drop off).take n) := by
    have e1 : cells = cells.take off ++ cells.drop off := (List.take_append_drop off cells).symm
    rw [e1] at hv
    have h1 := hv.split.2
    rw [List.length_take, Nat.min_eq_left (by omega)] at h1
    have e2 : cells.drop off = (cells.drop off).take n ++ (cells.drop off).drop n := (List.take_append_drop n _).symm
    rw [e2] at h1
    have h2 := h1.split.1
    rwa [List.length_take, Nat.min_eq_left (by simp; omega)] at h2
  have hrun := run_loadAt_agg (w := w) h (a := ⟨b, off, none⟩) (cs := (vs.toList.drop off).take n) (by simp at hlen ⊢; omega) (fun j v hj => by
    rw [add_off]
    have hj' : vs[off + j]? = some v := by
      rw [List.getElem?_take] at hj
      split at hj
      · rw [List.getElem?_drop] at hj; simpa using hj
      · cases hj
    simp [World.cell?, hb, hj'])
  simp only [exec, execOp, hx, Sem.run_bind, hrun, Result.andThen_ok, Sem.run_pure]
  exact Good.here hok ⟨_, rfl, h3⟩
end
end Go.L
/-! Slices: append, slice expressions, literals, builds. -/
namespace Go.L
open Go Go.RowKit

section flat
variable {r : Rho} {b : Nat} {T : Type} {f : T → List A} {k : Nat}
theorem flat_of_rows : ∀ {L : List T} {o : Nat}, (∀ y ∈ L, (f y).length = k) → (∀ (i : Nat) y, L[i]? = some y → A.CellsAt r b (o + i * k) (f y)) → A.CellsAt r b o (L.flatMap f)
  | [], _, _, _ => fun i c h => by simp at h
  | y :: L, o, hk, h => by
    have h0 := h 0 y (by simp)
    have h1 := flat_of_rows (L := L) (o := o + k) (fun z hz => hk z (by simp [hz])) (fun i z hz => by
      have := h (i + 1) z (by simpa using hz)
      rwa [show o + (i + 1) * k = o + k + i * k from by rw [Nat.add_mul]; omega] at this)
    have hl := hk y (by simp)
    intro i c hi
    rw [List.flatMap_cons] at hi
    by_cases q : i < k
    · rw [List.getElem?_append_left (by omega)] at hi
      have := h0 i c hi
      simpa using this
    · rw [List.getElem?_append_right (by omega), hl] at hi
      have := h1 (i - k) c hi
      rwa [show o + k + (i - k) = o + i from by omega] at this
theorem rows_of_flat : ∀ {L : List T} {o : Nat}, (∀ y ∈ L, (f y).length = k) → A.CellsAt r b o (L.flatMap f) → ∀ (i : Nat) y, L[i]? = some y → A.CellsAt r b (o + i * k) (f y)
  | [], _, _, _, i, y, h => by simp at h
  | z :: L, o, hk, h, i, y, hi => by
    have hl := hk z (by simp)
    have hh : A.CellsAt r b o (f z) ∧ A.CellsAt r b (o + k) (L.flatMap f) := by
      rw [List.flatMap_cons] at h
      refine ⟨fun j c hj => h j c (by rw [List.getElem?_append_left ((List.getElem?_eq_some_iff.1 hj).1)]; exact hj), fun j c hj => ?_⟩
      have := h (k + j) c (by rw [List.getElem?_append_right (by omega), hl]; simpa using hj)
      rwa [← Nat.add_assoc] at this
    cases i with
    | zero => simp at hi; subst hi; simpa using hh.1
    | succ i =>
      have := rows_of_flat (fun z hz => hk z (by simp [hz])) hh.2 i y (by simpa using hi)
      rwa [show o + k + i * k = o + (i + 1) * k from by rw [Nat.add_mul]; omega] at this
theorem flat_length : ∀ {L : List T}, (∀ y ∈ L, (f y).length = k) → (L.flatMap f).length = L.length * k
  | [], _ => by simp
  | y :: L, h => by
    rw [List.flatMap_cons, List.length_append, h y (by simp), flat_length (fun z hz => h z (by simp [hz])), List.length_cons, Nat.add_mul]; omega
theorem flat_one : ∀ {L : List T}, (∀ y, AllOne (f y)) → ∀ {vs : List Value}, All2 r (L.flatMap f) vs → ∀ u ∈ vs, u.oneCell' = true := by
  intro L hf vs h
  have : AllOne (L.flatMap f) := by
    clear h
    induction L with
    | nil => trivial
    | cons y L ih =>
      rw [List.flatMap_cons]
      have := hf y
      revert this
      generalize f y = l
      intro this
      induction l with
      | nil => exact ih
      | cons c l ihl => exact ⟨this.1, ihl this.2⟩
  exact AllOne.all this h
end flat

/-- The very slice, that reads as L. -/
def A.slv {T : Type} (v : Value) (k : Nat) (f : T → List A) (L : List T) : A := A.both (A.val v) (A.sl k f L)

/-- A slice's cells as values. -/
theorem sl_vals {r : Rho} {T : Type} {k : Nat} {f : T → List A} {L : List T} {v : Value} (h : (A.sl k f L).p r v) (hk : ∀ y, (f y).length = k) :
    ∃ a len cap vs, v = .slice a len cap ∧ len = L.length ∧ len ≤ cap ∧ cap ≤ maxLen ∧ All2 r (L.flatMap f) vs ∧ vs.length = len * k ∧
      (L = [] ∨ ∃ b o, a = some ⟨b, o, none⟩ ∧ ∀ (i : Nat) u, vs[i]? = some u → r ⟨b, o + i, none⟩ = some u) := by
  obtain ⟨a, len, cap, e, h1, h2, h3, h4⟩ := h
  by_cases hL : L = []
  · subst hL
    exact ⟨a, len, cap, [], e, h1, h2, h3, trivial, by simp at h1; simp [h1], .inl rfl⟩
  · obtain ⟨b, o, ha, hc⟩ := h4 hL
    have hf := flat_of_rows (fun y _ => hk y) hc
    obtain ⟨vs, hv1, hv2⟩ := exists_cells (r := r) (b := b) (o := o) (L.flatMap f) 0 (fun i c hi => by rw [Nat.zero_add]; exact hf i c hi)
    refine ⟨a, len, cap, vs, e, h1, h2, h3, hv1, ?_, .inr ⟨b, o, ha, fun i u hu => by have := hv2 i u hu; rwa [Nat.zero_add] at this⟩⟩
    rw [← hv1.length, flat_length (fun y _ => hk y), h1]

/-- The element type's row. -/
def TE (P : Program) (t e k bytes : Nat) : Prop := P.underlying t = some (.slice e) ∧ ∃ i z, P.info? e = some i ∧ i.zero = some z ∧ i.size = k ∧ i.bytes = bytes ∧ z.cells.size = k

/-- What an append comes to. -/
inductive Appended (w : World) (e k : Nat) (v : Value) (n m : Nat) (xs news : List Value) : Value → World → Prop
  | nothing (hm : m = 0) : Appended w e k v n m xs news v w
  | room (g cap : Nat) (cur : Array Value) (hv : v = .slice (some ⟨g, 0, none⟩) n cap) (hg : w.heap[g]? = some (.cells cur e (0, 0))) (hfit : n + m ≤ cap) :
      Appended w e k v n m xs news (.slice (some ⟨g, 0, none⟩) (n + m) cap) (w.putObj g (.cells (over cur.toList (n * k) news).toArray e (0, 0)))
  | grow (cap : Nat) (rest : Array Value) (h1 : n + m ≤ cap) (h2 : cap ≤ maxLen) (h3 : rest.size = (cap - (n + m)) * k) :
      Appended w e k v n m xs news (.slice (some ⟨w.heap.size, 0, none⟩) (n + m) cap) (w.drew.alloc (.cells (xs.toArray ++ news.toArray ++ rest) e))

theorem setRow_eq {w : World} {g : Nat} {cur cs : Array Value} {e : TypeId} (h : w.heap[g]? = some (.cells cur e (0, 0))) : w.setRow g cs = w.putObj g (.cells cs e (0, 0)) := by
  unfold World.setRow World.putObj
  congr 1
  apply Array.ext_getElem?
  intro k
  rw [Array.getElem?_modify]
  by_cases hk : g = k
  · subst hk
    obtain ⟨hlt, he⟩ := Array.getElem?_eq_some_iff.1 h
    simp [he, hlt]
  · rw [if_neg hk, Array.getElem?_setIfInBounds_ne hk]

theorem append_run {P : Program} {w : World} {t ty e k bytes : Nat} (hT : TE P t e k bytes) {v : Value} {n : Nat} {xs : List Value} (hk : 0 < k) (hown : w.ownsRow 0 e k v n xs) {ya : Option Addr} {m c : Nat} {news : List Value}
    (hl : news.length = m * k) (hnews : m = 0 ∨ ∃ a, ya = some a ∧ ∀ (j : Nat) u, news[j]? = some u → w.cell? (a.add j) = some u) (h1 : ∀ u ∈ news, u.oneCell' = true) (hb : (n + m) * bytes ≤ 140737488355328) (h63 : n + m ≤ maxLen) :
    ∃ v' w', (Builtin.append_ #[t, t] ty #[v, .slice ya m c]).run P w = .ok v' w' ∧ Appended w e k v n m xs news v' w' := by
  obtain ⟨ht, i, z, hi, hz, rfl, rfl, hzs⟩ := hT
  have hsmall : n + m ≤ 9223372036854775807 := by simp only [maxLen] at h63; omega
  by_cases hm : m = 0
  · subst hm
    have hn : news = [] := List.eq_nil_of_length_eq_zero (by simpa using hl)
    subst hn
    refine ⟨v, w, ?_, .nothing rfl⟩
    rcases hown.2 with ⟨rfl, rfl⟩ | ⟨g, cap, cur, rfl, _, _, hnc, _⟩ <;> cases ya <;>
      simp [Builtin.append_, run_underlying ht, sizeOf, typeInfo, Builtin.lenOf, Builtin.firstCells, loadCells, loadCellsFrom, storeCells, *]
  · obtain ⟨a, rfl, hn⟩ := hnews.resolve_left hm
    have hgr : ∀ (old : Nat), old < n + m → (∃ (cap : Nat), cap = grownCap w (n + m) old e ∧ n + m ≤ cap ∧ cap ≤ maxLen) := fun old ho => ⟨_, rfl, grownCap_ge w (n + m) old e, grownCap_le_maxLen w (n + m) old e h63⟩
    rcases hown.2 with ⟨rfl, rfl⟩ | ⟨g, cap, cur, rfl, _, hg, hnc, hcm, hcs, htake⟩
    · have hx : xs = [] := List.eq_nil_of_length_eq_zero (by simpa using hown.1)
      subst hx
      have hr := run_append_nil (P := P) w t ty e i z ht hi hz a m c news hl hn (by omega) (by omega) (by simp only [Nat.zero_add] at hb; omega)
      obtain ⟨cp, hcp, hc1, hc2⟩ := hgr 0 (by omega)
      simp only [Nat.zero_add] at hcp hc1
      rw [← hcp] at hr
      refine ⟨_, _, hr, ?_⟩
      have := Appended.grow (w := w) (e := e) (k := i.size) (v := .slice none 0 0) (n := 0) (m := m) (xs := []) (news := news) cp (Builtin.zeroCells z.cells (cp - m)) (by omega) hc2 (by rw [size_zeroCells, hzs]; simp)
      simpa using this
    · by_cases hroom : n + m ≤ cap
      · have hfit : n * i.size + news.length ≤ cur.size := by rw [hl, hcs, ← Nat.add_mul]; exact Nat.mul_le_mul_right _ hroom
        have hr := run_append_room (P := P) w t ty e i ht hi g n cap cur hg a m c news hl hn h1 hroom hfit
        rw [setRow_eq hg] at hr
        exact ⟨_, _, hr, .room g cap cur rfl hg hroom⟩
      · have holds : ∀ (j : Nat) u, xs[j]? = some u → w.cell? ((⟨g, 0, none⟩ : Addr).add j) = some u := hown.cells (g := g) rfl
        have hr := run_append_grow (P := P) w t ty e i z ht hi hz ⟨g, 0, none⟩ n cap xs hown.1 holds a m c news hl hn (by omega) (by omega) (growslice_fits (by omega) hb)
        obtain ⟨cp, hcp, hc1, hc2⟩ := hgr cap (by omega)
        rw [← hcp] at hr
        exact ⟨_, _, hr, .grow cp _ hc1 hc2 (by rw [size_zeroCells, hzs])⟩

theorem sl_of_vals {r : Rho} {T : Type} {k : Nat} {f : T → List A} {L : List T} {g N cap : Nat} {vals : List Value} (hk : ∀ y, (f y).length = k) (hN : N = L.length) (h1 : N ≤ cap) (h2 : cap ≤ maxLen)
    (hv : All2 r (L.flatMap f) vals) (hr : ∀ (i : Nat) u, vals[i]? = some u → r ⟨g, i, none⟩ = some u) : (A.sl k f L).p r (.slice (some ⟨g, 0, none⟩) N cap) := by
  refine ⟨_, _, _, rfl, hN, h1, h2, fun _ => ⟨g, 0, rfl, ?_⟩⟩
  have hf : A.CellsAt r g 0 (L.flatMap f) := fun i c hi => by
    obtain ⟨u, hu, hp⟩ := hv.get i c hi
    exact ⟨u, by rw [Nat.zero_add]; exact hr i u hu, hp⟩
  exact rows_of_flat (fun y _ => hk y) hf

theorem RoomOk.owns {r : Rho} {w : World} {v : Value} {e k : Nat} (h : RoomOk r w (v, e, k)) : ∃ n xs, w.ownsRow 0 e k v n xs ∧ (∀ ya m c, v = .slice ya m c → m = n) ∧
    (∀ g, roomBlock v = some g → ∃ cap cur, v = .slice (some ⟨g, 0, none⟩) n cap ∧ w.heap[g]? = some (.cells cur e (0, 0)) ∧ cur.size = cap * k ∧ n ≤ cap ∧ cap ≤ maxLen ∧ xs = cur.toList.take (n * k) ∧ ∀ o s, n * k ≤ o → r ⟨g, o, s⟩ = none) := by
  unfold RoomOk at h
  split at h
  · rename_i n c e'
    simp only at e'
    subst e'
    obtain ⟨rfl, rfl⟩ := h
    exact ⟨0, [], World.ownsRow_nil _ _ _ _, fun _ _ _ q => by cases q; rfl, fun g q => by cases q⟩
  · rename_i a n c e'
    simp only at e' h
    subst e'
    obtain ⟨h1, h2, h3, h4, ⟨vs, h5, h6⟩, h7⟩ := h
    have ea : a = ⟨a.block, 0, none⟩ := by cases a; simp_all
    refine ⟨n, vs.toList.take (n * k), ⟨?_, .inr ⟨a.block, c, vs, by rw [← ea], Nat.zero_le _, h5, h3, h4, h6, rfl⟩⟩, fun _ _ _ q => by cases q; rfl, fun g q => ?_⟩
    · rw [List.length_take, Array.length_toList, h6, Nat.min_eq_left (Nat.mul_le_mul_right _ h3)]
    · cases q
      exact ⟨c, vs, by rw [← ea], h5, h6, h3, h4, rfl, h7⟩
  · exact h.elim

theorem nodup_filterMap_get {S : Type} {f : S → Option Nat} {l : List S} (h : (l.filterMap f).Nodup) {i j : Nat} {x y : S} (hi : l[i]? = some x) (hj : l[j]? = some y) {b : Nat} (hx : f x = some b) (hy : f y = some b) : i = j := by
  induction l generalizing i j with
  | nil => simp at hi
  | cons z l ih =>
    have hl : (l.filterMap f).Nodup := by
      rw [List.filterMap_cons] at h
      split at h
      · exact h
      · exact (List.nodup_cons.1 h).2
    have hno : ∀ (j : Nat) y, l[j]? = some y → f y = some b → f z = some b → False := fun j y hj hy hz => by
      rw [List.filterMap_cons, hz] at h
      exact (List.nodup_cons.1 h).1 (List.mem_filterMap.2 ⟨y, List.mem_of_getElem? hj, hy⟩)
    cases i with
    | zero =>
      simp at hi; subst hi
      cases j with
      | zero => rfl
      | succ j => exact (hno j y (by simpa using hj) hy hx).elim
    | succ i =>
      cases j with
      | zero => simp at hj; subst hj; exact (hno i x (by simpa using hi) hx hy).elim
      | succ j =>
        have := ih hl (i := i) (j := j) (by simpa using hi) (by simpa using hj)
        omega

theorem set_same {S : Type} {l : List S} {i : Nat} {x : S} (h : l[i]? = some x) : l.set i x = l := by
  apply List.ext_getElem?
  intro j
  rw [List.getElem?_set]
  split
  · rename_i e; subst e; simp [h]; exact (List.getElem?_eq_some_iff.1 h).1
  · rfl

theorem filterMap_set {S : Type} {f : S → Option Nat} {l : List S} {i : Nat} {x y : S} (h : l[i]? = some x) (he : f x = f y) : (l.set i y).filterMap f = l.filterMap f := by
  induction l generalizing i with
  | nil => simp at h
  | cons z l ih =>
    cases i with
    | zero => simp at h; subst h; simp [List.filterMap_cons, he]
    | succ i => simp only [List.set_cons_succ, List.filterMap_cons, ih (by simpa using h)]

theorem nodup_set_new {S : Type} {f : S → Option Nat} {l : List S} {i : Nat} {y : S} {b : Nat} (h : (l.filterMap f).Nodup) (hb : f y = some b) (hnew : ∀ x ∈ l, f x ≠ some b) : ((l.set i y).filterMap f).Nodup := by
  induction l generalizing i with
  | nil => simp
  | cons z l ih =>
    have hl : (l.filterMap f).Nodup := by
      rw [List.filterMap_cons] at h
      split at h
      · exact h
      · exact (List.nodup_cons.1 h).2
    cases i with
    | zero =>
      rw [List.set_cons_zero, List.filterMap_cons, hb]
      refine List.nodup_cons.2 ⟨fun hm => ?_, hl⟩
      obtain ⟨x, hx, e⟩ := List.mem_filterMap.1 hm
      exact hnew x (by simp [hx]) e
    | succ i =>
      rw [List.set_cons_succ, List.filterMap_cons]
      have ih' := ih (i := i) hl (fun x hx => hnew x (by simp [hx]))
      split
      · exact ih'
      · rename_i c e
        refine List.nodup_cons.2 ⟨fun hm => ?_, ih'⟩
        obtain ⟨x, hx, e'⟩ := List.mem_filterMap.1 hm
        rcases List.mem_or_eq_of_mem_set hx with q | q
        · rw [List.filterMap_cons, e] at h
          exact (List.nodup_cons.1 h).1 (List.mem_filterMap.2 ⟨x, q, e'⟩)
        · subst q
          rw [hb] at e'
          exact hnew z (by simp) (by rw [e, e'])
end Go.L
/-! The walk's rule for an append to a slice with room. -/
namespace Go.L
open Go Go.RowKit

theorem cellsAt_news {r : Rho} {w : World} (hok : r.ok w) {b o : Nat} {vs : List Value} (h : ∀ (i : Nat) u, vs[i]? = some u → r ⟨b, o + i, none⟩ = some u) :
    ∀ (j : Nat) u, vs[j]? = some u → w.cell? ((⟨b, o, none⟩ : Addr).add j) = some u := fun j u hj => by
  rw [add_off]; exact hok.cell (h j u hj)

theorem HoldsAt.append {E : Env} {g : Ctx} {r : Rho} {a : Act} {w : World} (H : HoldsAt E g r a w) {i : Nat} {v : Value} {e k t ty bytes : Nat} (hi : g.rooms[i]? = some (v, e, k)) (hT : TE E.P t e k bytes) (hk0 : 0 < k)
    {T S : Type} {f : T → List A} {L ys : List T} {f2 : S → List A} {M : List S} (hk : ∀ y, (f y).length = k) (hk2 : ∀ y, (f2 y).length = k) (hOne : ∀ y, AllOne (f2 y)) (hM : M.map f2 = ys.map f)
    (hv : (A.sl k f L).p r v) {yv : Value} (hy : (A.sl k f2 M).p r yv) (hb : (L.length + M.length) * bytes ≤ 140737488355328) (h63 : L.length + M.length ≤ maxLen) :
    ∃ v' w' r', (Builtin.append_ #[t, t] ty #[v, yv]).run E.P w = .ok v' w' ∧ HoldsAt E { g with rooms := g.rooms.set i (v', e, k) } r' a w' ∧ r.le r' ∧ (A.sl k f (L ++ ys)).p r' v' ∧
      (∀ (b : Nat) (o : Obj), (∀ cs ty fr, o ≠ Obj.cells cs ty fr) → w.heap[b]? = some o → w'.heap[b]? = some o) := by
  have hmem := List.mem_of_getElem? hi
  obtain ⟨n, xs, hown, hn1, hn2⟩ := (H.room _ hmem).owns
  obtain ⟨ya, m, c, news, rfl, hm, hmc, hcm, hnv, hnl, hnr⟩ := sl_vals hy hk2
  obtain ⟨va, n', cap0, xs', hve, hn', hnc0, hcap0, hxv, hxl, hxr⟩ := sl_vals hv hk
  have hnn : n' = n := hn1 _ _ _ hve
  subst hnn
  have hlen : ys.length = M.length := by have := congrArg List.length hM; simpa using this.symm
  have hflat : M.flatMap f2 = ys.flatMap f := by rw [List.flatMap_def, List.flatMap_def, hM]
  have hnOne : ∀ u ∈ news, u.oneCell' = true := flat_one hOne hnv
  have hnews : m = 0 ∨ ∃ a, ya = some a ∧ ∀ (j : Nat) u, news[j]? = some u → w.cell? (a.add j) = some u := by
    rcases hnr with rfl | ⟨b, o, rfl, hq⟩
    · exact .inl (by simpa using hm)
    · exact .inr ⟨_, rfl, cellsAt_news H.ok hq⟩
  obtain ⟨v', w', hrun, hap⟩ := append_run (ty := ty) (c := c) hT hk0 hown hnl hnews hnOne (by rw [hn', hm]; exact hb) (by rw [hn', hm]; exact h63)
  have hall : All2 r ((L ++ ys).flatMap f) (xs' ++ news) := by
    rw [List.flatMap_append, ← hflat]; exact hxv.append hnv
  cases hap with
  | nothing hm0 =>
    subst hm0
    have hMe : M = [] := List.eq_nil_of_length_eq_zero hm.symm
    have hye : ys = [] := List.eq_nil_of_length_eq_zero (by rw [hlen, hMe]; rfl)
    subst hye
    refine ⟨v, w, r, hrun, ?_, r.le_refl, by simpa using hv, fun _ _ _ h => h⟩
    rw [set_same hi]; exact H
  | room gb cap cur hvv hg hfit =>
    obtain ⟨cap', cur', hv2, hg2, hcs, hnc, hcm', hxs, hspare⟩ := hn2 gb (by rw [hvv]; rfl)
    rw [hvv] at hv2; cases hv2
    rw [hg] at hg2; cases hg2
    have hlt : gb < w.heap.size := (Array.getElem?_eq_some_iff.1 hg).1
    obtain ⟨hbase, hnotown⟩ := H.roomB _ hmem gb (by rw [hvv]; rfl)
    have hfitk : n' * k + news.length ≤ cur.toList.length := by
      rw [hnl, Array.length_toList, hcs, ← Nat.add_mul]; exact Nat.mul_le_mul_right _ hfit
    have hin : ∀ (j : Nat) u, news[j]? = some u → (over cur.toList (n' * k) news)[n' * k + j]? = some u := fun j u hj => by
      have hjl := (List.getElem?_eq_some_iff.1 hj).1
      unfold over
      rw [List.getElem?_append_left (by simp at hfitk ⊢; omega), List.getElem?_append_right (by simp; omega)]
      have e : n' * k + j - (List.take (n' * k) cur.toList).length = j := by simp at hfitk ⊢; omega
      rw [e]; exact hj
    have hlow : ∀ (j : Nat), j < n' * k → (over cur.toList (n' * k) news)[j]? = cur[j]? := fun j hj => by
      unfold over
      rw [List.append_assoc, List.getElem?_append_left (by simp at hfitk ⊢; omega), List.getElem?_take, if_pos hj]
      simp
    let r' : Rho := fun x => if x.block = gb ∧ x.spot = none ∧ n' * k ≤ x.off ∧ x.off < (n' + m) * k then (over cur.toList (n' * k) news)[x.off]? else r x
    have hr'out : ∀ x : Addr, ¬ (x.block = gb ∧ x.spot = none ∧ n' * k ≤ x.off ∧ x.off < (n' + m) * k) → r' x = r x := fun x hx => by
      show (if _ then _ else _) = _
      rw [if_neg hx]
    have hr'in : ∀ x : Addr, (x.block = gb ∧ x.spot = none ∧ n' * k ≤ x.off ∧ x.off < (n' + m) * k) → r' x = (over cur.toList (n' * k) news)[x.off]? := fun x hx => by
      show (if _ then _ else _) = _
      rw [if_pos hx]
    have hle : r.le r' := fun x u e => by
      rw [hr'out]; exact e
      rintro ⟨e1, e2, e3, _⟩
      have := hspare x.off none e3
      have e4 : x = ⟨gb, x.off, none⟩ := by cases x; simp_all
      rw [e4, this] at e; cases e
    have hcell : ∀ (o : Nat), (w.putObj gb (.cells (over cur.toList (n' * k) news).toArray e (0, 0))).cell? ⟨gb, o, none⟩ = (over cur.toList (n' * k) news)[o]? := fun o => by
      simp [World.cell?, World.putObj_heap_same hlt]
    have hgc : ∀ (o : Nat), gc (w.putObj gb (.cells (over cur.toList (n' * k) news).toArray e (0, 0))).heap[gb]? ⟨gb, o, none⟩ = (over cur.toList (n' * k) news)[o]? := fun o => by
      simp [gc, World.putObj_heap_same hlt]
    have hunfg : Unf (w.putObj gb (.cells (over cur.toList (n' * k) news).toArray e (0, 0))) gb := fun cs' ty' fr e' => by
      rw [World.putObj_heap_same hlt] at e'; cases e'; rfl
    have hother : ∀ b, b ≠ gb → (w.putObj gb (.cells (over cur.toList (n' * k) news).toArray e (0, 0))).heap[b]? = w.heap[b]? := fun b hb => World.putObj_heap_other hb
    have hres : (A.sl k f (L ++ ys)).p r' (.slice (some ⟨gb, 0, none⟩) (n' + m) cap) := by
      refine sl_of_vals hk (by rw [List.length_append, hlen, hn', hm]) hfit hcm' (hall.mono hle) fun j u hj => ?_
      by_cases q : j < n' * k
      · rw [List.getElem?_append_left (by omega)] at hj
        rw [hr'out _ (fun h => by have := h.2.2.1; simp at this; omega)]
        rcases hxr with hL | ⟨b, o, hao, hq⟩
        · subst hL
          have hn0 : n' = 0 := by simpa using hn'
          subst hn0; simp at q
        · rw [hvv] at hve
          cases hve
          cases hao
          have := hq j u hj
          rwa [Nat.zero_add] at this
      · rw [List.getElem?_append_right (by omega), hxl] at hj
        have hjl := (List.getElem?_eq_some_iff.1 hj).1
        rw [hr'in _ ⟨rfl, rfl, by simp; omega, by simp; rw [Nat.add_mul]; omega⟩]
        have := hin _ u hj
        rwa [show n' * k + (j - n' * k) = j from by omega] at this
    refine ⟨_, _, r', hrun, ?_, hle, hres, fun b o ho hbo => ?_⟩
    · exact {
        le := H.le.trans_le hle
        cps := fun c hc => Rho.le_trans (H.cps c hc) hle
        ok := fun x u ex => by
          by_cases q : x.block = gb ∧ x.spot = none ∧ n' * k ≤ x.off ∧ x.off < (n' + m) * k
          · rw [hr'in x q] at ex
            have e4 : x = ⟨gb, x.off, none⟩ := by cases x; simp_all
            rw [e4, hgc]; exact ex
          · rw [hr'out x q] at ex
            have hw := H.ok x u ex
            by_cases hxb : x.block = gb
            · have hsp : x.spot = none := by
                unfold gc at hw
                rw [hxb, hg] at hw
                simp only at hw
                cases hs : x.spot with
                | none => rfl
                | some s => rw [hs] at hw; simp at hw
              have e4 : x = ⟨gb, x.off, none⟩ := by cases x; simp_all
              have hoff : x.off < n' * k := by
                rcases Nat.lt_or_ge x.off (n' * k) with h | h
                · exact h
                · have := hspare x.off none h
                  rw [e4, this] at ex; cases ex
              rw [e4, hgc, hlow _ hoff]
              rw [e4] at hw
              simpa [gc, hg] using hw
            · rw [hother _ hxb]; exact hw
        fresh := fun x u ex => by
          by_cases q : x.block = gb ∧ x.spot = none ∧ n' * k ≤ x.off ∧ x.off < (n' + m) * k
          · exact .inr ⟨q.1 ▸ hbase, q.1 ▸ hunfg⟩
          · rw [hr'out x q] at ex
            exact (H.fresh x u ex).elim .inl fun q => .inr ⟨q.1, by
              by_cases hxb : x.block = gb
              · rw [hxb]; exact hunfg
              · exact q.2.same (hother _ hxb)⟩
        size := by rw [World.putObj_size]; exact H.size
        block := fun b hb hX => by
          rw [hother b (fun e' => by subst e'; rcases hbase with h | h; exact hX h; omega)]; exact H.block b hb hX
        unf := fun b hb hu => by
          by_cases hxb : b = gb
          · rw [hxb]; exact hunfg
          · exact (H.unf b hb hu).same (hother _ hxb)
        os := H.os
        tape := H.tape
        output := H.output
        slots := Slots.mono H.slots hle
        own := fun x hx => by
          have hne : x.1 ≠ gb := fun e' => hnotown (List.mem_map.2 ⟨x, hx, e'⟩)
          obtain ⟨k1, vs, k2, k3⟩ := H.own x hx
          exact ⟨fun o s => by rw [hr'out _ (fun h => hne h.1)]; exact k1 o s, vs, by rw [hother _ hne]; exact k2, k3.mono hle⟩
        ownB := H.ownB
        nodup := H.nodup
        room := fun x hx => by
          obtain ⟨j, hj, ex⟩ := List.getElem_of_mem hx
          rw [List.getElem_set] at ex
          by_cases hij : i = j
          · rw [if_pos hij] at ex
            subst ex
            refine ⟨rfl, rfl, hfit, hcm', ⟨_, World.putObj_heap_same hlt, ?_⟩, fun o s ho => ?_⟩
            · simp only [List.size_toArray]
              rw [over_length hfitk, Array.length_toList]; exact hcs
            · simp only at ho
              rw [hr'out _ (fun h => by have := h.2.2.2; simp at this; omega)]
              exact hspare o s (by rw [Nat.add_mul] at ho; omega)
          · rw [if_neg hij] at ex
            have hj' : j < g.rooms.length := by simpa using hj
            have hxj : g.rooms[j]? = some x := by rw [List.getElem?_eq_getElem hj', ex]
            have hR := H.room x (List.mem_of_getElem? hxj)
            have hne : ∀ b', roomBlock x.1 = some b' → b' ≠ gb := fun b' hb' e' => by
              subst e'
              exact hij (nodup_filterMap_get (f := fun x : Value × Nat × Nat => roomBlock x.1) H.roomN hi hxj (b := b') (by rw [hvv]; rfl) hb')
            unfold RoomOk at hR ⊢
            split at hR
            · exact hR
            · rename_i ad nn cc e'
              obtain ⟨h1, h2, h3, h4, ⟨vs, h5, h6⟩, h7⟩ := hR
              have hnb : ad.block ≠ gb := hne _ (by rw [e']; rfl)
              exact ⟨h1, h2, h3, h4, ⟨vs, by rw [hother _ hnb]; exact h5, h6⟩, fun o s ho => by rw [hr'out ⟨ad.block, o, s⟩ (fun h => hnb h.1)]; exact h7 o s ho⟩
            · exact hR
        roomB := fun x hx b hb' => by
          rcases List.mem_or_eq_of_mem_set hx with q | q
          · exact H.roomB x q b hb'
          · subst q
            cases hb'
            exact ⟨hbase, hnotown⟩
        roomN := by
          have : (g.rooms.set i (.slice (some ⟨gb, 0, none⟩) (n' + m) cap, e, k)).filterMap (fun x => roomBlock x.1) = g.rooms.filterMap (fun x => roomBlock x.1) :=
            filterMap_set (f := fun x : Value × Nat × Nat => roomBlock x.1) hi (by rw [hvv]; rfl)
          rw [this]; exact H.roomN
        mp := H.mp.stay hle (fun x hx o sp => by
          have hne : x.1 ≠ gb := fun e => by
            obtain ⟨arr, cl, h1, _⟩ := H.mp.at_ x hx
            rw [e, hg] at h1; cases h1
          rw [hr'out ⟨x.1, o, sp⟩ (fun h => hne h.1)]; exact H.mp.un x hx o sp) fun k o ho hk => by
          have hkb : k ≠ gb := fun e => by
            subst e; rw [hg] at hk; cases hk; cases ho
          rw [hother k hkb]; exact hk }
    · rw [hother b (fun e' => by subst e'; rw [hg] at hbo; cases hbo; exact ho _ _ _ rfl)]; exact hbo
  | grow cap rest hg1 hg2 hg3 =>
    have hxs' : xs' = xs := by
      apply List.ext_getElem?
      intro j
      by_cases hj : j < n' * k
      · rcases hxr with hL | ⟨b, o, hao, hq⟩
        · subst hL
          have hn0 : n' = 0 := by simpa using hn'
          subst hn0; simp at hj
        · subst hao
          obtain ⟨cap', cur', hv2, hgc, hcs, hnc, hcm', hxs, hspare⟩ := hn2 b (by rw [hve]; rfl)
          rw [hve] at hv2; cases hv2
          have h1 : xs'[j]? = some (xs'[j]'(by omega)) := List.getElem?_eq_getElem _
          have h2 := H.ok _ _ (hq j _ h1)
          rw [h1, hxs, List.getElem?_take, if_pos hj]
          rw [Nat.zero_add] at h2
          simpa [gc, hgc] using h2.symm
      · have e1 : xs'[j]? = none := List.getElem?_eq_none (by omega)
        have e2 : xs[j]? = none := List.getElem?_eq_none (by rw [hown.1]; omega)
        rw [e1, e2]
    have hsz : (xs.toArray ++ news.toArray ++ rest).toList = xs ++ news ++ rest.toList := by simp
    let r' : Rho := fun x => if x.block = w.heap.size ∧ x.spot = none ∧ x.off < (n' + m) * k then (xs ++ news)[x.off]? else r x
    have hr'out : ∀ x : Addr, ¬ (x.block = w.heap.size ∧ x.spot = none ∧ x.off < (n' + m) * k) → r' x = r x := fun x hx => by
      show (if _ then _ else _) = _
      rw [if_neg hx]
    have hr'in : ∀ x : Addr, (x.block = w.heap.size ∧ x.spot = none ∧ x.off < (n' + m) * k) → r' x = (xs ++ news)[x.off]? := fun x hx => by
      show (if _ then _ else _) = _
      rw [if_pos hx]
    have hold : ∀ x : Addr, x.block < w.heap.size → r' x = r x := fun x hx => hr'out x (fun h => by omega)
    have hle : r.le r' := fun x u ex => by rw [hold x (Rho.ok_lt H.ok ex)]; exact ex
    have hlenxs : (xs ++ news).length = (n' + m) * k := by rw [List.length_append, hown.1, hnl, Nat.add_mul]
    have gr : Grow r w r' (w.drew.alloc (.cells (xs.toArray ++ news.toArray ++ rest) e)) := by
      refine ⟨hle, fun x u ex => ?_, fun x u ex => ?_, ((Below.refl _ _).drew).alloc (by simp) _⟩
      · by_cases q : x.block = w.heap.size ∧ x.spot = none ∧ x.off < (n' + m) * k
        · rw [hr'in x q] at ex
          have e4 : x = ⟨w.drew.heap.size, x.off, none⟩ := by cases x; simp_all
          rw [e4, World.alloc_heap_new]
          have : (xs ++ news ++ rest.toList)[x.off]? = some u := by rw [List.getElem?_append_left (by rw [hlenxs]; exact q.2.2)]; exact ex
          have k2 : (xs.toArray ++ news.toArray ++ rest).toList[x.off]? = some u := by rw [hsz]; exact this
          rw [Array.getElem?_toList] at k2
          exact k2
        · rw [hr'out x q] at ex
          have := Rho.ok_lt H.ok ex
          rw [Below.heap_alloc _ _ _ (by simpa using this)]
          exact H.ok x u ex
      · by_cases q : x.block = w.heap.size ∧ x.spot = none ∧ x.off < (n' + m) * k
        · refine .inr ⟨by omega, fun cs' ty' fr e' => ?_⟩
          have e5 : x.block = w.drew.heap.size := q.1
          rw [e5, World.alloc_heap_new] at e'
          cases e'; rfl
        · rw [hr'out x q] at ex; exact .inl ex
    have hres : (A.sl k f (L ++ ys)).p r' (.slice (some ⟨w.heap.size, 0, none⟩) (n' + m) cap) := by
      rw [hxs'] at hall
      refine sl_of_vals hk (by rw [List.length_append, hlen, hn', hm]) hg1 hg2 (hall.mono hle) fun j u hj => ?_
      rw [hr'in _ ⟨rfl, rfl, by have := (List.getElem?_eq_some_iff.1 hj).1; rw [hlenxs] at this; exact this⟩]
      exact hj
    have H' := H.grow gr (a' := a) (Slots.mono H.slots hle)
    refine ⟨_, _, r', hrun, ?_, hle, hres, fun b o ho hbo => ?_⟩
    · exact { H' with
        room := fun x hx => by
          rcases List.mem_or_eq_of_mem_set hx with q | q
          · exact H'.room x q
          · subst q
            refine ⟨rfl, rfl, hg1, hg2, ⟨_, World.alloc_heap_new w.drew _, ?_⟩, fun o s ho => ?_⟩
            · simp only [Array.size_append, List.size_toArray, hg3, hown.1, hnl]
              rw [← Nat.add_mul, ← Nat.add_mul]; congr 1; omega
            · simp only at ho
              cases hs : r' ⟨w.heap.size, o, s⟩ with
              | none => rfl
              | some u =>
                rw [hr'out _ (fun h => by have := h.2.2; simp at this; omega)] at hs
                exact absurd (Rho.ok_lt H.ok hs) (by simp)
        roomB := fun x hx b hb' => by
          rcases List.mem_or_eq_of_mem_set hx with q | q
          · exact H'.roomB x q b hb'
          · subst q
            cases hb'
            refine ⟨.inr H.size, fun hm' => ?_⟩
            obtain ⟨z, hz, ez⟩ := List.mem_map.1 hm'
            have := (H.own z hz).lt
            have ez : z.1 = w.heap.size := ez
            omega
        roomN := nodup_set_new (f := fun x : Value × Nat × Nat => roomBlock x.1) (b := w.heap.size) H.roomN rfl (fun x hx e' => by
          have := (H.room x hx).lt e'; omega) }
    · have hbl := (Array.getElem?_eq_some_iff.1 hbo).1
      exact (gr.below.block b hbl).trans hbo

section
variable {E : Env} {g : Ctx} {Q : Exit → Act → World → Prop} {ops : Array Oper} {rest : List Oper}
/-- x = append(x, y...) where x has room of its own. -/
theorem WL_append (i : Nat) {d t ty : Nat} {x y : Operand} {pos : String} {aft : Array Edge} {v : Value} {e k bytes : Nat} {T S : Type} {f : T → List A} {L : List T} (ys : List T) {f2 : S → List A} {M : List S}
    (hT : TE E.P t e k bytes) (hr : Reads g.sl true [(true, x, A.slv v k f L), (true, y, A.sl k f2 M)]) (hi : g.rooms[i]? = some (v, e, k)) (hk0 : 0 < k)
    (hk : ∀ y, (f y).length = k) (hk2 : ∀ y, (f2 y).length = k) (hOne : ∀ y, AllOne (f2 y)) (hM : M.map f2 = ys.map f)
    (hb : (L.length + M.length) * bytes ≤ 140737488355328) (h63 : L.length + M.length ≤ maxLen) (hd : Nat.ble (d + 1) E.n = true)
    (h : ∀ v', WL E ops rest { g with sl := (d, true, A.slv v' k f (L ++ ys)) :: g.sl, rooms := g.rooms.set i (v', e, k) } Q) :
    WL E ops (⟨some d, .call { callee := .builtin .append, args := #[x, y], argTypes := #[t, t] }, ty, pos, aft, none⟩ :: rest) g Q := by
  intro a w ⟨h1, h2, r, H⟩
  have hu := hr.use rfl H.slots
  obtain ⟨hxv, hxs⟩ := hu (true, x, A.slv v k f L) (by simp) rfl
  have hxv : a.eval x = v := hxv
  have hxs : (A.sl k f L).p r v := hxv ▸ hxs
  have hys := hu (true, y, A.sl k f2 M) (by simp) rfl
  obtain ⟨v', w', r', hrun, H', hle, hres, hkeep⟩ := H.append (ty := ty) hi hT hk0 hk hk2 hOne hM hxs hys hb h63
  have hexec : (execOp a.eval ⟨some d, .call { callee := .builtin .append, args := #[x, y], argTypes := #[t, t] }, ty, pos, aft, none⟩).run E.P w = .ok (.value v') w' := by
    simp only [execOp, resolve, Sem.run_bind, Sem.run_pure, Result.andThen_ok, invoke, builtin]
    simp only [List.map_toArray, List.map_cons, List.map_nil, hxv, hrun, Result.andThen_ok]
  refine wpListIn_value rfl (by simp) (fun _ => trivial) hexec (h v' _ _ ⟨by rw [size_put]; exact h1, ?_, r', ?_⟩)
  · rw [defers_put]
    have : ∀ l : List Deferred, Marks E w l → Marks E w' l := by
      intro l
      induction l with
      | nil => intro _; trivial
      | cons d l ih => intro ⟨⟨b, q1, q2, q3, q4⟩, q5⟩; exact ⟨⟨b, q1, q2, hkeep b _ (fun _ _ _ e => by cases e) q3, q4⟩, ih q5⟩
    exact this _ h2
  · have hlt : d < a.tmps.size := by rw [h1]; exact Nat.le_of_ble_eq_true hd
    exact { H' with slots := Slots.put H'.slots hlt (fun _ => ⟨rfl, hres⟩) (fun hc => by cases hc) }

/-- A nil slice has room for anything. -/
theorem WL_roomNil {l : List Oper} (s : Nat) (e k : Nat) {T : Type} (f : T → List A) (hs : look g.sl s = some (true, A.val (.slice none 0 0)))
    (h : WL E ops l { g with sl := (s, true, A.slv (.slice none 0 0) k f []) :: g.sl, rooms := (.slice none 0 0, e, k) :: g.rooms } Q) : WL E ops l g Q := by
  intro a w ⟨h1, h2, r, H⟩
  refine h a w ⟨h1, h2, r, ?_⟩
  exact { H with
    slots := fun s' c x e' => by
      unfold look at e'
      by_cases q : s = s'
      · subst q
        simp at e'
        obtain ⟨rfl, rfl⟩ := e'
        have hv : a.tmps.getD s undef = .slice none 0 0 := (H.slots s true _ hs).1 rfl
        refine ⟨fun _ => ?_, fun e => by cases e⟩
        rw [hv]
        exact ⟨rfl, none, 0, 0, rfl, rfl, Nat.le_refl _, Nat.zero_le _, fun h => absurd rfl h⟩
      · rw [if_neg (by simpa using q)] at e'
        exact H.slots s' c x e'
    room := fun x hx => by
      rcases List.mem_cons.1 hx with rfl | hx
      · exact ⟨rfl, rfl⟩
      · exact H.room x hx
    roomB := fun x hx b hb => by
      rcases List.mem_cons.1 hx with rfl | hx
      · cases hb
      · exact H.roomB x hx b hb
    roomN := by
      rw [List.filterMap_cons]
      exact H.roomN }
end
end Go.L
/-! More operations: slice expressions, closures, literals, builds, nil checks; results in cells; loops that lay blocks. -/
namespace Go.L
open Go Go.RowKit

theorem TS.elem {P : Program} {t e k : Nat} (h : TS P t e k) : P.underlying t = some (.slice (P.elem t)) := by
  have := h.under
  rw [this]
  simp [Program.elem, this]
theorem TS.elem_eq {P : Program} {t e k : Nat} (h : TS P t e k) : P.elem t = e := by
  simp [Program.elem, h.under]

section
variable {P : Program} {own : OC} {ty : TypeId} {T e k : Nat} {x lo hi : Operand} {S : Type} {f : S → List A} {L : List S}

theorem sl_sliced {r : Rho} {v : Value} (h : (A.sl k f L).p r v) {a : Option Addr} {len cap : Nat} (hv : v = .slice a len cap) {i j : Nat} (hij : i ≤ j) (hj : j ≤ L.length) :
    (A.sl k f ((L.take j).drop i)).p r (sliced a i j cap k) := by
  obtain ⟨a', len', cap', e, h1, h2, h3, h4⟩ := h
  rw [hv] at e
  cases e
  have hl : ((L.take j).drop i).length = j - i := by simp; omega
  refine ⟨_, _, _, rfl, hl.symm, by omega, by omega, fun hne => ?_⟩
  have hLne : L ≠ [] := fun e => by subst e; simp at hne
  obtain ⟨b, o, rfl, hc⟩ := h4 hLne
  have hlt : i < j := by
    rcases Nat.lt_or_ge i j with q | q
    · exact q
    · exact absurd (List.eq_nil_of_length_eq_zero (by rw [hl]; omega)) hne
  refine ⟨b, o + i * k, ?_, fun m y hm => ?_⟩
  · rw [if_neg (by omega)]
    simp [add_off]
  · have hm' : L[i + m]? = some y := by
      rw [List.getElem?_drop, List.getElem?_take] at hm
      split at hm
      · exact hm
      · cases hm
    have := hc (i + m) y hm'
    rwa [show o + i * k + m * k = o + (i + m) * k from by rw [Nat.add_mul]; omega]

theorem O_slice_h {j : Int} (h : TS P T e k) (hb : 0 ≤ j ∧ j ≤ L.length) :
    OpN P own [(true, x, A.sl k f L), (true, hi, A.int j)] (.slice T x none (some hi) none) ty (A.sl k f (L.take j.toNat)) := fun r w a hok _ hn => by
  have h0 := hn (true, x, A.sl k f L) (by simp) rfl
  have hj : a.eval hi = .int .i64 j := hn (true, hi, A.int j) (by simp) rfl
  obtain ⟨p, len, cap, hx, h1, h2, h3, h4⟩ := id h0
  have hx : a.eval x = .slice p len cap := hx
  have hs := sl_sliced h0 hx (i := 0) (j := j.toNat) (Nat.zero_le _) (by omega)
  have hr := run_slice_h (P := P) (w := w) T p len cap h.elem .i64 j hb.1 (by omega)
  have hz : sizeAt P (P.elem T) = some k := by rw [h.elem_eq]; exact h.2
  simp only [exec, execOp, hx, hj, Sem.run_bind, Option.map_some, Option.map_none, run_sliceAt_slice (P := P) w T _ _ _ _ h.elem, hr, run_sizeOf hz, Result.andThen_ok, Sem.run_pure]
  exact Good.here hok (by simpa using hs)
theorem O_slice_l {i : Int} (h : TS P T e k) (hb : 0 ≤ i ∧ i ≤ L.length) :
    OpN P own [(true, x, A.sl k f L), (true, lo, A.int i)] (.slice T x (some lo) none none) ty (A.sl k f (L.drop i.toNat)) := fun r w a hok _ hn => by
  have h0 := hn (true, x, A.sl k f L) (by simp) rfl
  have hi : a.eval lo = .int .i64 i := hn (true, lo, A.int i) (by simp) rfl
  obtain ⟨p, len, cap, hx, h1, h2, h3, h4⟩ := id h0
  have hx : a.eval x = .slice p len cap := hx
  have hs := sl_sliced h0 hx (i := i.toNat) (j := len) (by omega) (by omega)
  have hr := run_slice_l (P := P) (w := w) T p len cap h.elem .i64 i hb.1 (by omega)
  have hz : sizeAt P (P.elem T) = some k := by rw [h.elem_eq]; exact h.2
  simp only [exec, execOp, hx, hi, Sem.run_bind, Option.map_some, Option.map_none, run_sliceAt_slice (P := P) w T _ _ _ _ h.elem, hr, run_sizeOf hz, Result.andThen_ok, Sem.run_pure]
  exact Good.here hok (by rw [h1, List.take_length] at hs; rw [h1]; exact hs)
theorem O_slice_lh {i j : Int} (h : TS P T e k) (hb : 0 ≤ i ∧ i ≤ j ∧ j ≤ L.length) :
    OpN P own [(true, x, A.sl k f L), (true, lo, A.int i), (true, hi, A.int j)] (.slice T x (some lo) (some hi) none) ty (A.sl k f ((L.take j.toNat).drop i.toNat)) := fun r w a hok _ hn => by
  have h0 := hn (true, x, A.sl k f L) (by simp) rfl
  have hi' : a.eval lo = .int .i64 i := hn (true, lo, A.int i) (by simp) rfl
  have hj : a.eval hi = .int .i64 j := hn (true, hi, A.int j) (by simp) rfl
  obtain ⟨p, len, cap, hx, h1, h2, h3, h4⟩ := id h0
  have hx : a.eval x = .slice p len cap := hx
  have hs := sl_sliced h0 hx (i := i.toNat) (j := j.toNat) (by omega) (by omega)
  have hr := run_slice_lh (P := P) (w := w) T p len cap h.elem .i64 .i64 i j hb.1 hb.2.1 (by omega)
  have hz : sizeAt P (P.elem T) = some k := by rw [h.elem_eq]; exact h.2
  simp only [exec, execOp, hx, hi', hj, Sem.run_bind, Option.map_some, Option.map_none, run_sliceAt_slice (P := P) w T _ _ _ _ h.elem, hr, run_sizeOf hz, Result.andThen_ok, Sem.run_pure]
  exact Good.here hok hs
end

section
variable {P : Program} {own : OC} {ty : TypeId} {x : Operand}
theorem O_nilCheck {l : List A} : OpN P own [(true, x, A.pt l)] (.nilCheck x) ty (A.pt l) := fun r w a hok _ hn => by
  have h0 := hn (true, x, A.pt l) (by simp) rfl
  obtain ⟨b, o, hx, _⟩ := id h0
  have hx : a.eval x = .pointer (some ⟨b, o, none⟩) := hx
  rw [hx] at h0
  simp only [exec, execOp, hx, Sem.run_pure]
  exact Good.here hok h0
theorem O_nilCheckv {b o : Nat} : OpN P own [(true, x, A.val (.pointer (some ⟨b, o, none⟩)))] (.nilCheck x) ty (A.val (.pointer (some ⟨b, o, none⟩))) := fun r w a hok _ hn => by
  have hx : a.eval x = .pointer (some ⟨b, o, none⟩) := hn (true, x, _) (List.mem_singleton.2 rfl) rfl
  simp only [exec, execOp, hx, Sem.run_pure]
  exact Good.here hok rfl

/-- A closure: its function, what it has captured. -/
def A.cl (f : FuncId) (caps : List A) : A :=
  ⟨fun r v => ∃ vs : List Value, v = .func (.func f) #[] vs.toArray ∧ All2 r caps vs, fun h ⟨vs, e, k⟩ => ⟨vs, e, k.mono h⟩⟩

theorem O_makeFunc {f : FuncId} {xs : List Operand} {caps : List A} (hl : xs.length = caps.length) :
    OpN P own ((xs.zip caps).map fun z => (true, z.1, z.2)) (.makeFunc (.func f) #[] xs.toArray) ty (A.cl f caps) := fun r w a hok _ hn => by
  have := all2_args hl hn
  simp only [exec, execOp, Sem.run_bind, Instr.makeFunc, Sem.run_pure, Result.andThen_ok]
  exact Good.here hok ⟨xs.map a.eval, by simp, this⟩

/-- A call of a closure. -/
theorem O_callcl {f : FuncId} {g : Operand} {xs : List Operand} {ts caps : List A} {t : A} {tt : Array TypeId} (hf : CallF P f) (h : FnC P f (ts ++ caps) t) (hl : xs.length = ts.length) :
    OpN P own ((true, g, A.cl f caps) :: (xs.zip ts).map fun z => (true, z.1, z.2)) (.call { callee := .value g, args := xs.toArray, argTypes := tt }) ty t := fun r w a hok _ hn => by
  have ha := all2_args hl (fun z hz => hn z (List.mem_cons_of_mem _ hz))
  obtain ⟨vs, hg, hv⟩ := hn (true, g, A.cl f caps) (List.mem_cons_self ..) rfl
  have hg : a.eval g = .func (.func f) #[] vs.toArray := hg
  have hcall := h r w (xs.map a.eval ++ vs) hok (ha.append hv)
  simp only [exec, execOp, resolve, Sem.run_bind, Sem.run_pure, Result.andThen_ok, hg, Deferred.ofValue, invoke]
  simp only [List.map_toArray, List.append_toArray, hf w _]
  exact ⟨rfl, hcall⟩
end

section
variable {E : Env} {g : Ctx} {Q : Exit → Act → World → Prop} {l : List Oper} {ops : Array Oper}

/-- The first says no more than the second, place by place. -/
def AllImp : List A → List A → Prop
  | [], [] => True
  | t :: l, u :: m => Imp u t ∧ AllImp l m
  | _, _ => False
theorem AllImp.refl : ∀ {l : List A}, AllImp l l
  | [] => trivial
  | _ :: _ => ⟨Imp.refl, AllImp.refl⟩
theorem AllImp.eq {l m : List A} (h : l = m) : AllImp l m := h ▸ AllImp.refl
theorem AllImp.all2 {r : Rho} : ∀ {l m : List A} {vs : List Value}, AllImp l m → All2 r m vs → All2 r l vs
  | [], [], _, _, k => k
  | _ :: _, _ :: _, _ :: _, h, k => ⟨h.1 _ _ k.1, AllImp.all2 h.2 k.2⟩
  | _ :: _, _ :: _, [], _, k => k.elim
  | [], _ :: _, _, h, _ => h.elim
  | _ :: _, [], _, h, _ => h.elim
/-- Fewer owned blocks, of which less is said. -/
inductive OSub : Own → Own → Prop
  | nil {l : Own} : OSub [] l
  | skip {l m : Own} {x : Nat × TypeId × List A} (h : OSub l m) : OSub l (x :: m)
  | cons {l m : Own} {b ty : Nat} {cs ds : List A} (h : AllImp cs ds) (k : OSub l m) : OSub ((b, ty, cs) :: l) ((b, ty, ds) :: m)
theorem OSub.refl : ∀ {l : Own}, OSub l l
  | [] => .nil
  | (_, _, _) :: _ => .cons AllImp.refl OSub.refl
theorem OSub.mem {l m : Own} (h : OSub l m) : ∀ x ∈ l, ∃ ds, (x.1, x.2.1, ds) ∈ m ∧ AllImp x.2.2 ds := by
  induction h with
  | nil => intro x hx; cases hx
  | skip h ih => intro x hx; obtain ⟨ds, h1, h2⟩ := ih x hx; exact ⟨ds, List.mem_cons_of_mem _ h1, h2⟩
  | cons h k ih =>
    intro x hx
    rcases List.mem_cons.1 hx with rfl | hx
    · exact ⟨_, List.mem_cons_self .., h⟩
    · obtain ⟨ds, h1, h2⟩ := ih x hx; exact ⟨ds, List.mem_cons_of_mem _ h1, h2⟩
theorem OSub.fst {l m : Own} (h : OSub l m) : (l.map (·.1)).Sublist (m.map (·.1)) := by
  induction h with
  | nil => exact List.nil_sublist _
  | skip h ih => exact ih.cons _
  | cons h k ih => exact ih.cons_cons _
theorem OwnAt.imp {r : Rho} {w : World} {b ty : Nat} {cs ds : List A} (h : OwnAt r w b ty ds) (k : AllImp cs ds) : OwnAt r w b ty cs :=
  let ⟨h1, vs, h2, h3⟩ := h; ⟨h1, vs, h2, k.all2 h3⟩
theorem OSub.ok {l m : Own} (h : OSub l m) {r : Rho} {w : World} (k : OwnOk r w m) : OwnOk r w l := fun x hx => by
  obtain ⟨ds, h1, h2⟩ := h.mem x hx
  exact (k _ h1).imp h2

/-- Fewer facts, fewer owned blocks, fewer rooms. -/
theorem Holds.less {g' : Ctx} {a : Act} {w : World} (h : Holds E g a w) (hs : Facts g.sl g'.sl) (ho : OSub g'.own g.own) (hr : g'.rooms.Sublist g.rooms) (hm : g'.maps = g.maps) (hob : g'.objs = g.objs) (hc : ∀ c ∈ g'.cps, c ∈ g.cps) : Holds E g' a w := by
  obtain ⟨h1, h2, r, H⟩ := h
  refine ⟨h1, h2, r, ?_⟩
  exact {
    le := H.le, cps := fun c h => H.cps c (hc c h), ok := H.ok, fresh := H.fresh, size := H.size, block := H.block, unf := H.unf, os := H.os, tape := H.tape, output := H.output
    slots := fun s c t e => by
      obtain ⟨rfl, u, hu, k⟩ := hs.use e
      exact ⟨fun _ => k _ _ ((H.slots s true u hu).1 rfl), fun h => by cases h⟩
    own := ho.ok H.own
    ownB := fun x hx => by obtain ⟨ds, h1, _⟩ := ho.mem x hx; exact H.ownB (x.1, x.2.1, ds) h1
    nodup := H.nodup.sublist ho.fst
    room := fun x hx => H.room x (hr.subset hx)
    roomB := fun x hx b hb => ⟨(H.roomB x (hr.subset hx) b hb).1, fun hm => (H.roomB x (hr.subset hx) b hb).2 (ho.fst.subset hm)⟩
    roomN := H.roomN.sublist (hr.filterMap _)
    mp := by rw [hm, hob]; exact H.mp }
/-- Fewer facts from here on. -/
theorem WL_less (g' : Ctx) (hs : Facts g.sl g'.sl) (ho : OSub g'.own g.own) (hr : g'.rooms.Sublist g.rooms) (hm : g'.maps = g.maps) (hob : g'.objs = g.objs) (hc : ∀ c ∈ g'.cps, c ∈ g.cps) (h : WL E ops l g' Q) : WL E ops l g Q :=
  fun a w k => h a w (k.less hs ho hr hm hob hc)

/-- A loop: J says what holds of the slots that it writes, O of its owned blocks, R of its rooms; the slots ks stay as they are. -/
theorem W_loopo {c : Code} {T : Type} (ks : List Nat) (q : T → Prop) (J : T → List (Nat × Bool × A)) (O : T → Own) (R : T → List (Value × Nat × Nat)) (M : T → List (Nat × List (Value × A))) (m : T → Nat) (x0 : T) (hq : q x0) (h0 : Facts g.sl (J x0)) (hO : OSub (O x0) g.own) (hR : (R x0).Sublist g.rooms) (hM : M x0 = g.maps)
    (round : ∀ x, q x → W E c ⟨J x ++ keep g.sl ks, O x, R x, M x, g.objs, g.cps⟩ (Exit.then (fun a w => ∃ x', q x' ∧ m x' < m x ∧ Holds E ⟨J x' ++ keep g.sl ks, O x', R x', M x', g.objs, g.cps⟩ a w) Q)) : W E (.loop c) g Q :=
  W_loop q (fun x => ⟨J x ++ keep g.sl ks, O x, R x, M x, g.objs, g.cps⟩) m ⟨x0, hq, fun _ _ h => h.less (Facts.append h0 (Facts.keep Kept.self)) hO hR hM rfl (fun _ h => h)⟩ round
theorem Fin_backo {T : Type} {ks : List Nat} {q : T → Prop} {J : T → List (Nat × Bool × A)} {O : T → Own} {R : T → List (Value × Nat × Nat)} {M : T → List (Nat × List (Value × A))} {m : T → Nat} {x : T} {g' : Ctx} {N : Exit → Act → World → Prop} (x' : T) (hq : q x') (hm : m x' < m x) (h : Facts g'.sl (J x'))
    (hk : Kept g.sl g'.sl ks) (ho : OSub (O x') g'.own) (hr : (R x').Sublist g'.rooms) (hmm : M x' = g'.maps) (hob : g.objs = g'.objs := by rfl) (hc : g.cps = g'.cps := by rfl) :
    Fin E g' .normal (Exit.then (fun a w => ∃ x', q x' ∧ m x' < m x ∧ Holds E ⟨J x' ++ keep g.sl ks, O x', R x', M x', g.objs, g.cps⟩ a w) N) :=
  fun _ _ H => ⟨x', hq, hm, H.less (Facts.append h (Facts.keep hk)) ho hr hmm hob (fun c h => hc ▸ h)⟩

theorem HoldsAt.retell {r : Rho} {a : Act} {w : World} {y : A} {s : Nat} (H : HoldsAt E g r a w) (hy : y.p r (a.tmps.getD s undef)) : HoldsAt E { g with sl := (s, true, y) :: g.sl } r a w :=
  { le := H.le, cps := H.cps, ok := H.ok, fresh := H.fresh, size := H.size, block := H.block, unf := H.unf, os := H.os, tape := H.tape, output := H.output, own := H.own, ownB := H.ownB, nodup := H.nodup, room := H.room, roomB := H.roomB, roomN := H.roomN, mp := H.mp
    slots := fun s' c t e => by
      rcases Nat.decEq s s' with q | q
      · exact H.slots s' c t (by
          simp only [look] at e
          rw [show (s == s') = false from by simpa using q] at e
          exact e)
      · subst q
        simp only [look, beq_self_eq_true] at e
        cases e
        exact ⟨fun _ => hy, fun e => by cases e⟩ }
/-- Where a value is known up to something: that something is named. -/
theorem WL_ex {T : Type} {f : T → A} (s : Nat) (hs : look g.sl s = some (true, A.ex f)) (h : ∀ x, WL E ops l { g with sl := (s, true, f x) :: g.sl } Q) : WL E ops l g Q := by
  intro a w ⟨h1, h2, r, H⟩
  obtain ⟨x, hx⟩ := (H.slots s true _ hs).1 rfl
  exact h x a w ⟨h1, h2, r, H.retell hx⟩
/-- The same of a statement. -/
theorem WL_st {p : Prop} {u : A} (s : Nat) (hs : look g.sl s = some (true, A.st p u)) (h : p → WL E ops l { g with sl := (s, true, u) :: g.sl } Q) : WL E ops l g Q := by
  intro a w ⟨h1, h2, r, H⟩
  obtain ⟨hp, hx⟩ := (H.slots s true _ hs).1 rfl
  exact h hp a w ⟨h1, h2, r, H.retell hx⟩
/-- A fact said otherwise. -/
theorem WL_imp {u t : A} (s : Nat) (hs : look g.sl s = some (true, u)) (hi : Imp u t) (h : WL E ops l { g with sl := (s, true, t) :: g.sl } Q) : WL E ops l g Q := by
  intro a w ⟨h1, h2, r, H⟩
  exact h a w ⟨h1, h2, r, H.retell (hi _ _ ((H.slots s true u hs).1 rfl))⟩
end

theorem Chain_cons {E : Env} {ops : Array Oper} {own : OC} {o : Oper} {rest : List Oper} {av : List (Nat × Bool × A)} {K : List (Nat × Bool × A) → Prop} {d : Nat} {c : Bool} {t : A}
    (h : Step1 E ops own av o (d, c, t)) (k : Chain E ops own rest ((d, c, t) :: av) K) : Chain E ops own (o :: rest) av K := ⟨(d, c, t), h, k⟩
theorem Chain_nil {E : Env} {ops : Array Oper} {own : OC} {av : List (Nat × Bool × A)} {K : List (Nat × Bool × A) → Prop} (h : K av) : Chain E ops own [] av K := h

end Go.L
/-! Literals: structs, arrays, slices. -/
namespace Go.L
open Go Go.RowKit

theorem zipIdx_over {S : Type} : ∀ (xs : List S) (o s : Nat) (cs : Array S), o + s + xs.length ≤ cs.size →
    ((xs.zipIdx s).foldl (fun cs (c, j) => cs.setIfInBounds (o + j) c) cs).toList = over cs.toList (o + s) xs
  | [], o, s, cs, _ => by simp [over]
  | x :: xs, o, s, cs, h => by
    simp only [List.length_cons] at h
    rw [List.zipIdx_cons, List.foldl_cons]
    simp only
    rw [zipIdx_over xs o (s + 1) _ (by simp; omega), Array.toList_setIfInBounds, ← Nat.add_assoc, over_cons _ _ _ _ (by simp; omega)]

/-- The parts laid over the cells. -/
def fillL : List A → List (Nat × List A) → List A
  | cs, [] => cs
  | cs, (o, l) :: rest => fillL (over cs o l) rest
def fitsL (n : Nat) : List (Nat × List A) → Bool
  | [] => true
  | (o, l) :: rest => Nat.ble (o + l.length) n && fitsL n rest

theorem fill_run {r : Rho} {place : Nat → Option (Nat × Nat)} : ∀ (parts : List (Nat × Value)) (ls : List (Nat × List A)) (cells : Array Value) (cs : List A), All2 r cs cells.toList → fitsL cs.length ls = true →
    parts.length = ls.length → (∀ (i : Nat) p l, parts[i]? = some p → ls[i]? = some l → place p.1 = some (l.1, l.2.length) ∧ All2 r l.2 p.2.cells.toList) →
    ∃ out, Instr.fill place cells parts = some out ∧ All2 r (fillL cs ls) out.toList
  | [], [], cells, cs, h, _, _, _ => ⟨cells, rfl, h⟩
  | (i, v) :: parts, (o, l) :: ls, cells, cs, h, hf, hl, hp => by
    simp only [fitsL, Bool.and_eq_true] at hf
    have hle := Nat.le_of_ble_eq_true hf.1
    obtain ⟨h1, h2⟩ := hp 0 (i, v) (o, l) rfl rfl
    have hlen := h2.length
    have hc := h.length
    simp only [Array.length_toList] at hlen hc
    have hnew : ((v.cells.zipIdx.foldl (fun cs (c, j) => cs.setIfInBounds (o + j) c) cells)).toList = over cells.toList o v.cells.toList := by
      have := zipIdx_over v.cells.toList o 0 cells (by simp; omega)
      rw [← Array.foldl_toList, Array.toList_zipIdx]
      simpa using this
    have hA : All2 r (over cs o l) (v.cells.zipIdx.foldl (fun cs (c, j) => cs.setIfInBounds (o + j) c) cells).toList := by
      rw [hnew]; exact h.over h2 hle
    obtain ⟨out, ho, hq⟩ := fill_run parts ls _ (over cs o l) hA (by rw [over_length hle]; exact hf.2) (by simpa using hl) (fun j p q hj hq => hp (j + 1) p q (by simpa using hj) (by simpa using hq))
    refine ⟨out, ?_, hq⟩
    have e1 : l.length = v.cells.size := hlen
    have hno : ¬ (v.cells.size ≠ l.length ∨ o + v.cells.size > cells.size) := by omega
    have h1' : place i = some (o, l.length) := h1
    unfold Instr.fill
    simp only [h1']
    rw [if_neg (by simpa using hno)]
    exact ho
  | [], _ :: _, _, _, _, _, hl, _ => by simp at hl
  | _ :: _, [], _, _, _, _, hl, _ => by simp at hl

/-- A struct type's places. -/
def placesOf (P : Program) (t : TypeId) : Option (List (Nat × Nat)) :=
  match P.underlying t with
  | some (.struct fs) => fs.toList.mapM fun f => (sizeAt P f.type).map fun s => (f.offset, s)
  | _ => none
/-- A struct type: the zero value's cells, the fields' places. -/
def TB (P : Program) (t : TypeId) (zs : List Value) (pl : List (Nat × Nat)) : Prop := zeroCellsOf P t = some zs ∧ placesOf P t = some pl

theorem run_mapM_places {P : Program} {w : World} : ∀ (fs : List Field) (pl : List (Nat × Nat)), (fs.mapM fun f => (sizeAt P f.type).map fun s => (f.offset, s)) = some pl →
    (fs.mapM fun f => (do pure (f.offset, ← sizeOf f.type) : Sem (Nat × Nat))).run P w = .ok pl w
  | [], pl, h => by simp at h; subst h; simp
  | f :: fs, pl, h => by
    rw [List.mapM_cons] at h
    simp only [Option.bind_eq_bind, Option.bind_eq_some_iff, Option.map_eq_some_iff, Option.pure_def, Option.some.injEq] at h
    obtain ⟨p, ⟨s, hs, rfl⟩, ps, hps, rfl⟩ := h
    rw [List.mapM_cons]
    simp only [Sem.run_bind, run_sizeOf hs, Result.andThen_ok, Sem.run_pure, run_mapM_places fs ps hps]

/-- What the parts are. -/
def partsOk (pl : List (Nat × Nat)) : List (Nat × Operand) → List (A × List A) → Bool
  | [], [] => true
  | (i, _) :: ps, (_, l) :: ls => (match pl[i]? with | some (_, s) => s == l.length | none => false) && partsOk pl ps ls
  | _, _ => false
def partOffs (pl : List (Nat × Nat)) : List (Nat × Operand) → List (A × List A) → List (Nat × List A)
  | (i, _) :: ps, (_, l) :: ls => ((pl[i]?).elim 0 (·.1), l) :: partOffs pl ps ls
  | _, _ => []
def AllCells : List (A × List A) → Prop
  | [] => True
  | (t, l) :: ls => CellsOf t l ∧ AllCells ls

theorem parts_spec {r : Rho} {a : Act} {pl : List (Nat × Nat)} : ∀ {ps : List (Nat × Operand)} {ls : List (A × List A)}, partsOk pl ps ls = true → AllCells ls →
    (∀ z ∈ (ps.zip ls).map (fun z => ((true, z.1.2, z.2.1) : Bool × Operand × A)), z.1 = true → z.2.2.p r (a.eval z.2.1)) →
    ps.length = (partOffs pl ps ls).length ∧ ∀ (i : Nat) p l, (ps.map fun x => (x.1, a.eval x.2))[i]? = some p → (partOffs pl ps ls)[i]? = some l → pl[p.1]? = some (l.1, l.2.length) ∧ All2 r l.2 p.2.cells.toList
  | [], [], _, _, _ => ⟨rfl, by simp⟩
  | (i, x) :: ps, (t, l) :: ls, h, hc, hn => by
    simp only [partsOk, Bool.and_eq_true] at h
    obtain ⟨h1, h2⟩ := h
    have ih := parts_spec h2 hc.2 (fun z hz => hn z (by simp only [List.zip_cons_cons, List.map_cons]; exact List.mem_cons_of_mem _ hz))
    have hx : t.p r (a.eval x) := hn (true, x, t) (by simp) rfl
    refine ⟨by simp [partOffs, ih.1], ?_⟩
    intro j p q hj hq
    cases j with
    | zero =>
      simp [partOffs] at hj hq
      subst hj; subst hq
      cases hp : pl[i]? with
      | none => simp [hp] at h1
      | some y =>
        obtain ⟨o, s⟩ := y
        simp [hp] at h1
        subst h1
        exact ⟨by simp, (hc.1 r _ hx).1⟩
    | succ j => exact ih.2 j p q (by simpa using hj) (by simpa [partOffs] using hq)
  | [], _ :: _, h, _, _ => by cases h
  | _ :: _, [], h, _, _ => by cases h

section
variable {P : Program} {own : OC} {ty T : TypeId}
theorem O_build {zs : List Value} {pl : List (Nat × Nat)} {ps : List (Nat × Operand)} (ls : List (A × List A)) (h : TB P T zs pl) (hp : partsOk pl ps ls = true) (hc : AllCells ls)
    (hf : fitsL zs.length (partOffs pl ps ls) = true) :
    OpN P own ((ps.zip ls).map fun z => (true, z.1.2, z.2.1)) (.build T ps.toArray) ty (A.agg (fillL (zs.map A.val) (partOffs pl ps ls))) := fun r w a hok _ hn => by
  obtain ⟨z, hzc, hzr⟩ := TZ.run h.1
  obtain ⟨hl, hq⟩ := parts_spec hp hc hn
  obtain ⟨fs, hu, hm⟩ : ∃ fs, P.underlying T = some (.struct fs) ∧ (fs.toList.mapM fun f => (sizeAt P f.type).map fun s => (f.offset, s)) = some pl := by
    have h2 := h.2
    unfold placesOf at h2
    split at h2
    · rename_i fs e; exact ⟨fs, e, h2⟩
    · cases h2
  obtain ⟨out, ho, hout⟩ := fill_run (r := r) (place := fun i : Nat => pl[i]?) (ps.map fun x => (x.1, a.eval x.2)) (partOffs pl ps ls) z.cells (zs.map A.val) (by rw [hzc]; exact All2.vals zs) (by simpa using hf) (by simpa using hl) hq
  have hmap : (fs.mapM fun f => (do pure (f.offset, ← sizeOf f.type) : Sem (Nat × Nat))).run P w = .ok pl.toArray w := by
    rw [Array.mapM_eq_mapM_toList, Sem.run_map]
    rw [run_mapM_places _ _ hm]
    rfl
  have ho' : Instr.fill (fun i : Nat => pl.toArray[i]?) z.cells ((ps.toArray.map fun x => (x.1, a.eval x.2)).toList) = some out := by
    have e1 : (fun i : Nat => pl.toArray[i]?) = fun i : Nat => pl[i]? := by funext i; simp
    rw [e1]; simpa using ho
  have : (exec a (.build T ps.toArray) ty).run P w = .ok (.value (.agg out)) w := by
    simp only [exec, execOp, Sem.run_bind, Instr.build, hzr, Result.andThen_ok, run_underlying hu, hmap]
    simp only [ho', Sem.run_pure, Result.andThen_ok]
  rw [this]
  exact Good.here hok ⟨out, rfl, hout⟩

theorem fill_place {place place' : Nat → Option (Nat × Nat)} {out : Array Value} : ∀ (parts : List (Nat × Value)) (cells : Array Value), (∀ p ∈ parts, place p.1 = place' p.1) → Instr.fill place cells parts = some out → Instr.fill place' cells parts = some out
  | [], _, _, h => h
  | (i, v) :: parts, cells, hp, h => by
    have e := hp (i, v) (by simp)
    simp only at e
    unfold Instr.fill at h ⊢
    rw [← e]
    cases hpl : place i with
    | none => simp [hpl] at h
    | some q =>
      simp only [hpl] at h ⊢
      split at h
      · cases h
      · rename_i hc
        rw [if_neg hc]
        exact fill_place parts _ (fun p hq => hp p (by simp [hq])) h

theorem All2.anys {r : Rho} : ∀ (vs : List Value), All2 r (List.replicate vs.length A.any) vs
  | [] => trivial
  | _ :: vs => ⟨trivial, All2.anys vs⟩

def slPlaces (n k : Nat) : List (Nat × Nat) := (List.range n).map fun i => (i * k, k)
/-- A slice literal. -/
theorem O_buildSlice {e k n bytes : Nat} {S : Type} {f : S → List A} (L : List S) {ps : List (Nat × Operand)} (ls : List (A × List A)) (h : TE P T e k bytes) (hsz : Nat.ble (n * k) 16777216 = true) (hmax : n ≤ maxLen) (hn : L.length = n) (hk : ∀ y, (f y).length = k)
    (hp : partsOk (slPlaces n k) ps ls = true) (hc : AllCells ls) (hf : fitsL (n * k) (partOffs (slPlaces n k) ps ls) = true)
    (hL : fillL (List.replicate (n * k) A.any) (partOffs (slPlaces n k) ps ls) = L.flatMap f) :
    OpN P own ((ps.zip ls).map fun z => (true, z.1.2, z.2.1)) (.buildSlice T n ps.toArray) ty (A.sl k f L) := fun r w a hok _ hneed => by
  obtain ⟨hu, i, z, hi, hz, hs, _, hzs⟩ := h
  obtain ⟨hl, hq⟩ := parts_spec hp hc hneed
  have hsz := Nat.le_of_ble_eq_true hsz
  have main : ∀ cells : Array Value, cells.size = n * k → ∃ out, Instr.fill (fun i => some (i * k, k)) cells (ps.toArray.map fun x => (x.1, a.eval x.2)).toList = some out ∧ All2 r (L.flatMap f) out.toList := by
    intro cells hcs
    obtain ⟨out, ho, hout⟩ := fill_run (r := r) (place := fun i : Nat => (slPlaces n k)[i]?) (ps.map fun x => (x.1, a.eval x.2)) (partOffs (slPlaces n k) ps ls) cells (List.replicate (n * k) A.any) (by have := All2.anys (r := r) cells.toList; rwa [Array.length_toList, hcs] at this) (by simpa using hf) (by simpa using hl) hq
    refine ⟨out, ?_, hL ▸ hout⟩
    have hsame : ∀ p ∈ ps.map fun x => (x.1, a.eval x.2), (slPlaces n k)[p.1]? = (fun i : Nat => some (i * k, k)) p.1 := by
      intro p hp'
      obtain ⟨j, hj, ej⟩ := List.getElem_of_mem hp'
      have hjl : j < (partOffs (slPlaces n k) ps ls).length := by rw [← hl]; simpa using hj
      have := (hq j p _ (by rw [List.getElem?_eq_getElem hj, ej]) (List.getElem?_eq_getElem hjl)).1
      have hlt := (List.getElem?_eq_some_iff.1 this).1
      have hlt' : p.1 < n := by simpa [slPlaces] using hlt
      simp [slPlaces, hlt']
    have := fill_place (place := fun i : Nat => (slPlaces n k)[i]?) (place' := fun i : Nat => some (i * k, k)) _ _ hsame ho
    simpa using this
  have hsize : (sizeOf e).run P w = .ok k w := run_sizeOf (by unfold sizeAt; simp [hi, hs])
  have hzr : (zeroValue e).run P w = .ok z w := by simp [zeroValue, typeInfo, hi, hz]
  have hsz' : ¬ (n * k > 2 ^ 24) := by omega
  have fin : ∀ out : Array Value, All2 r (L.flatMap f) out.toList → Good P r w (A.sl k f L) (.ok (.value (.slice (some ⟨w.heap.size, 0, none⟩) n n)) (w.alloc (.cells out e))) := by
    intro out hout
    obtain ⟨s, gr, hs⟩ := Grow.alloc hok out e
    refine ⟨s, gr, some ⟨w.heap.size, 0, none⟩, n, n, rfl, hn.symm, Nat.le_refl _, hmax, fun _ => ⟨w.heap.size, 0, rfl, ?_⟩⟩
    have hflat : A.CellsAt s w.heap.size 0 (L.flatMap f) := fun j c hj => by
      obtain ⟨u, hu', hp'⟩ := hout.get j c hj
      exact ⟨u, by rw [Nat.zero_add]; exact hs j u (by simpa using hu'), c.mono gr.le hp'⟩
    exact rows_of_flat (fun y _ => hk y) hflat
  by_cases h0 : n * k = 0
  · obtain ⟨out, ho, hout⟩ := main ((Array.range (n * k)).map (fun j => (#[] : Array Value)[j % (#[] : Array Value).size]!)) (by simp)
    have : (exec a (.buildSlice T n ps.toArray) ty).run P w = .ok (.value (.slice (some ⟨w.heap.size, 0, none⟩) n n)) (w.alloc (.cells out e)) := by
      simp only [exec, execOp, Sem.run_bind, Instr.buildSlice, run_underlying hu, Result.andThen_ok, hsize, if_neg hsz', if_pos h0, Sem.run_pure]
      simp only [ho, Sem.run_bind, newRow, newObj, Sem.run_pure, Result.andThen_ok]
      rfl
    rw [this]
    exact fin out hout
  · obtain ⟨out, ho, hout⟩ := main ((Array.range (n * k)).map (fun j => z.cells[j % z.cells.size]!)) (by simp)
    have : (exec a (.buildSlice T n ps.toArray) ty).run P w = .ok (.value (.slice (some ⟨w.heap.size, 0, none⟩) n n)) (w.alloc (.cells out e)) := by
      simp only [exec, execOp, Sem.run_bind, Instr.buildSlice, run_underlying hu, Result.andThen_ok, hsize, if_neg hsz', if_neg h0, Sem.run_pure, hzr]
      simp only [ho, Sem.run_bind, newRow, newObj, Sem.run_pure, Result.andThen_ok]
      rfl
    rw [this]
    exact fin out hout
end
end Go.L
/-! A range over a function: the iterator's body is walked in place; at each call of yield the loop's body is. -/
namespace Go.L
open Go Go.RowKit

theorem HoldsAt.putHead {E : Env} {g : Ctx} {r : Rho} {a : Act} {w : World} {l : Nat} {o o' : Obj} {ex : List (Nat × Obj)} (H : HoldsAt E g r a w) (hob : g.objs = (l, o) :: ex) (ho' : o'.isCells = false) (hnm' : isMapO o' = false) :
    HoldsAt E { g with objs := (l, o') :: ex } r a (w.putObj l o') := by
  obtain ⟨hl, ho, hb⟩ := H.mp.obj (l, o) (by rw [hob]; simp)
  have hnd := H.mp.objN
  rw [hob, List.map_cons, List.nodup_cons] at hnd
  have hlt : l < w.heap.size := (Array.getElem?_eq_some_iff.1 hl).1
  have hnm : ∀ es cl, o ≠ .map es cl := fun es cl e => by rw [e] at hb; exact absurd hb.2 (by simp [isMapO])
  have same : ∀ (b : Nat) cs ty fr, w.heap[b]? = some (Obj.cells cs ty fr) → (w.putObj l o').heap[b]? = some (Obj.cells cs ty fr) := by
    intro b cs ty fr hbb
    have hne : b ≠ l := fun e => by subst e; rw [hl] at hbb; cases hbb; cases ho
    rw [World.putObj_heap_other hne]; exact hbb
  have cell : ∀ x v, gc w.heap[x.block]? x = some v → gc (w.putObj l o').heap[x.block]? x = some v := by
    intro x v hx
    by_cases q : x.block = l
    · exfalso
      rw [q, hl] at hx
      unfold gc at hx
      split at hx
      · split at hx
        · rename_i heq; cases heq; cases ho
        · cases hx
      · split at hx
        · rename_i heq; cases heq; exact hnm _ _ rfl
        · cases hx
    · rw [World.putObj_heap_other q]; exact hx
  have unf : ∀ b, Unf w b → Unf (w.putObj l o') b := by
    intro b hU cs ty fr e
    by_cases q : b = l
    · subst q; rw [World.putObj_heap_same hlt] at e; cases e; cases ho'
    · rw [World.putObj_heap_other q] at e; exact hU _ _ _ e
  exact {
    le := H.le
    cps := H.cps
    ok := fun x v e => cell x v (H.ok x v e)
    fresh := fun x v e => (H.fresh x v e).elim .inl fun q => .inr ⟨q.1, unf _ q.2⟩
    size := by rw [World.putObj_size]; exact H.size
    block := fun k hk hx => by rw [World.putObj_heap_other (by simp only at hb; omega)]; exact H.block k hk hx
    unf := fun b hb hu => unf b (H.unf b hb hu)
    os := H.os
    tape := H.tape
    output := H.output
    slots := H.slots
    own := fun x hx => by
      obtain ⟨h1, vs, h2, h3⟩ := H.own x hx
      exact ⟨h1, vs, same _ _ _ _ h2, h3⟩
    ownB := H.ownB
    nodup := H.nodup
    room := fun x hx => by
      have := H.room x hx
      unfold RoomOk at this ⊢
      split at this
      · exact this
      · obtain ⟨h1, h2, h3, h4, ⟨vs, h5, h6⟩, h7⟩ := this
        exact ⟨h1, h2, h3, h4, ⟨vs, same _ _ _ _ h5, h6⟩, h7⟩
      · exact this
    roomB := H.roomB
    roomN := H.roomN
    mp := {
      at_ := fun x hx => by
        obtain ⟨arr, cl, h1, h2, h3⟩ := H.mp.at_ x hx
        refine ⟨arr, cl, ?_, h2, h3⟩
        have hne : x.1 ≠ l := fun e => by rw [e, hl] at h1; exact hnm _ _ (Option.some.inj h1)
        rw [World.putObj_heap_other hne]; exact h1
      un := H.mp.un
      base := H.mp.base
      nodup := H.mp.nodup
      obj := fun x hx => by
        rcases List.mem_cons.1 hx with rfl | hx
        · exact ⟨World.putObj_heap_same hlt, ho', hb.1, hnm'⟩
        · obtain ⟨h1, h2, h3⟩ := H.mp.obj x (by rw [hob]; simp [hx])
          refine ⟨?_, h2, h3⟩
          have hne : x.1 ≠ l := fun e => hnd.1 (List.mem_map.2 ⟨x, hx, e⟩)
          rw [World.putObj_heap_other hne]; exact h1
      objN := by rw [List.map_cons, List.nodup_cons]; exact hnd } }

theorem marks_objs {E : Env} {w : World} : ∀ {ds : List Deferred}, Marks E w ds → ∃ ex : List (Nat × Obj), (∀ x ∈ ex, w.heap[x.1]? = some x.2 ∧ x.2.isCells = false ∧ (E.w0.heap.size ≤ x.1 ∧ isMapO x.2 = false) ∧ { target := .collected x.1, args := #[] } ∈ ds) ∧ (ex.map (·.1)).Nodup ∧
    ∀ w' : World, (∀ x ∈ ex, w'.heap[x.1]? = some x.2) → Marks E w' ds
  | [], _ => ⟨[], by simp, by simp, fun _ _ => trivial⟩
  | d :: ds, ⟨⟨b, h1, h2, h3, h4⟩, k⟩ => by
    obtain ⟨ex, q1, q2, q3⟩ := marks_objs k
    refine ⟨(b, .deferred (some [])) :: ex, ?_, ?_, ?_⟩
    · intro x hx
      rcases List.mem_cons.1 hx with rfl | hx
      · exact ⟨h3, rfl, ⟨h2.1, rfl⟩, by rw [h1]; simp⟩
      · obtain ⟨k1, k2, k3, k4⟩ := q1 x hx
        exact ⟨k1, k2, k3, by simp [k4]⟩
    · rw [List.map_cons, List.nodup_cons]
      refine ⟨fun hm => ?_, q2⟩
      obtain ⟨x, hx, e⟩ := List.mem_map.1 hm
      obtain ⟨_, _, _, k4⟩ := q1 x hx
      simp only at e
      rw [e] at k4
      exact h4 _ k4 h1.symm
    · intro w' hw'
      exact ⟨⟨b, h1, h2, hw' (b, .deferred (some [])) (List.mem_cons_self ..), h4⟩, q3 w' fun x hx => hw' x (by simp [hx])⟩

/-- A range over a function under way. -/
structure RS (E : Env) (g : Ctx) (ps : Array Tmp) (as bd : Code) where
  fnid : FuncId
  a : Act
  r : Rho
  l : Nat
  D : Nat
  ex : List (Nat × Obj)
  size : a.tmps.size = E.n
  slots : Slots r a g.sl
  marks : ∀ w' : World, (∀ x ∈ ex, w'.heap[x.1]? = some x.2) → Marks E w' ({ target := .collected D, args := #[] } :: a.defers)

section
variable {E : Env} {g : Ctx} {ps : Array Tmp} {as bd : Code}
def RS.rcd (S : RS E g ps as bd) (st : LoopState) (pend : Option Code) : Loop := { state := st, pending := pend, fn := S.fnid, tmps := S.a.tmps, params := ps, assign := as, body := bd, defers := S.D }
def RS.objs (S : RS E g ps as bd) (st : LoopState) (pend : Option Code) : List (Nat × Obj) := (S.l, .loop (S.rcd st pend)) :: S.ex
def RS.E1 (S : RS E g ps as bd) (n : Nat) : Env := { E with n := n, rnd := none, plain := true }
def RS.E2 (S : RS E g ps as bd) : Env := { E with rnd := some S.l, plain := true }
def RS.a' (S : RS E g ps as bd) : Act := { S.a with defers := { target := .collected S.D, args := #[] } :: S.a.defers }

/-- The frame's other side. -/
theorem HoldsAt.env {E E' : Env} {g g' : Ctx} {r : Rho} {a a' : Act} {w : World} (H : HoldsAt E g r a w) (hw : E'.w0 = E.w0) (hX : E'.X = E.X) (h0 : E'.r0 = E.r0) (hK : E'.K = E.K)
    (ho : g'.own = g.own) (hr : g'.rooms = g.rooms) (hm : g'.maps = g.maps) (hob : g'.objs = g.objs) (hc : ∀ c ∈ g'.cps, c.le r) (hs : Slots r a' g'.sl) : HoldsAt E' g' r a' w := by
  have hb : ∀ b, E'.base b = E.base b := fun b => by unfold Env.base; rw [hw, hX]
  exact {
    le := by rw [h0, hK]; exact H.le
    cps := hc
    ok := H.ok
    fresh := fun x v e => by rw [h0, hK, hb]; exact H.fresh x v e
    size := by rw [hw]; exact H.size
    block := by rw [hw, hX]; exact H.block
    unf := by rw [hw]; exact H.unf
    os := by rw [hw]; exact H.os
    tape := by rw [hw]; exact H.tape
    output := by rw [hw]; exact H.output
    slots := hs
    own := by rw [ho]; exact H.own
    ownB := by rw [ho]; exact fun x hx => by rw [hb]; exact H.ownB x hx
    nodup := by rw [ho]; exact H.nodup
    room := by rw [hr]; exact H.room
    roomB := by rw [hr, ho]; exact fun x hx b q => by rw [hb]; exact H.roomB x hx b q
    roomN := by rw [hr]; exact H.roomN
    mp := by
      rw [hm, hob]
      exact ⟨H.mp.at_, H.mp.un, fun x hx => by rw [hb]; exact H.mp.base x hx, H.mp.nodup, fun x hx => by rw [hw]; exact H.mp.obj x hx, H.mp.objN⟩ }

def IterPost (S : RS E g ps as bd) (fn : Func) (Q : Exit → Act → World → Prop) : Exit → Act → World → Prop := bodyPostM (fz none) 9 E.P fn (rangePost (fz none) 9 E.P S.l Q S.a')

theorem callsIn_n {m n : Nat} {P : Program} {f : FuncId} {args : Array Value} {w : World} {R : Ending → World → Prop} (h : CallsIn (fz none) n P f args w R) : CallsIn (fz none) m P f args w R :=
  ⟨h.1, fun cs _ => h.2 cs (fun d hd => by cases hd)⟩
theorem roundIn_n {m n : Nat} {P : Program} {l : Nat} {f : FuncId} {tmps : Array Value} {as bd : Code} {w : World} {R : Ending → World → Prop} (h : RoundIn (fz none) n P l f tmps as bd w R) : RoundIn (fz none) m P l f tmps as bd w R :=
  ⟨h.1, fun c cs _ => h.2 c cs (fun d hd => by cases hd)⟩

theorem W_rangeFunc {Q : Exit → Act → World → Prop} {gs : Nat} {gf : FuncId} {fn : Func} {c : Code} {caps : List A} (hro : E.rnd = none) (hobj : g.objs = []) (hlow : E.plain = false)
    (hg : look g.sl gs = some (true, A.cl gf caps)) (hf : E.P.funcs[gf]? = some fn) (hb : fn.body = some c) (hcf : CallF E.P gf) (hn : Nat.ble (caps.length + 1) fn.ntmps = true)
    (h : ∀ S : RS E g ps as bd, W (S.E1 fn.ntmps) c ⟨(0, true, A.val (.func (.yield S.l) #[] #[])) :: params 1 caps, g.own, g.rooms, g.maps, S.objs .ready none, S.r :: g.cps⟩ (IterPost S fn Q)) :
    W E (.rangeFunc (.tmp gs) ps as bd) g Q := by
  intro a w ⟨h1, h2, r, H⟩
  rw [hro]
  obtain ⟨vs, hv, hcaps⟩ := (H.slots gs true _ hg).1 rfl
  have hv : a.eval (.tmp gs) = .func (.func gf) #[] vs.toArray := hv
  refine wpIn_rangeFunc fun fnid _ => ?_
  obtain ⟨ex, q1, q2, q3⟩ := marks_objs h2
  let rec0 : Loop := { state := .ready, pending := none, fn := fnid, tmps := a.tmps, params := ps, assign := as, body := bd, defers := w.heap.size }
  let w1 := (w.alloc (.deferred (some []))).alloc (.loop rec0)
  have hs1 : (w.alloc (.deferred (some []))).heap.size = w.heap.size + 1 := by simp
  have hL : w1.heap[w.heap.size + 1]? = some (.loop rec0) := by
    have := World.alloc_heap_new (w.alloc (.deferred (some []))) (.loop rec0); rwa [hs1] at this
  have hD : w1.heap[w.heap.size]? = some (.deferred (some [])) :=
    (Below.heap_alloc _ _ _ (by simp)).trans (World.alloc_heap_new w _)
  have gr : Grow r w r w1 := Grow.same H.ok (((Below.refl _ w).alloc (Nat.le_refl _) _).alloc (by simp) _)
  have H1 := H.grow gr (a' := a) H.slots
  have hex : ∀ x ∈ ex, w1.heap[x.1]? = some x.2 := fun x hx => by
    obtain ⟨k1, _⟩ := q1 x hx
    rw [gr.below.block _ (Array.getElem?_eq_some_iff.1 k1).1]; exact k1
  have hexlt : ∀ x ∈ ex, x.1 < w.heap.size := fun x hx => (Array.getElem?_eq_some_iff.1 (q1 x hx).1).1
  let S : RS E g ps as bd := {
    fnid := fnid, a := a, r := r, l := w.heap.size + 1, D := w.heap.size, ex := (w.heap.size, .deferred (some [])) :: ex, size := h1, slots := H.slots
    marks := fun w' hw' => ⟨⟨w.heap.size, rfl, ⟨H.size, hlow⟩, hw' (w.heap.size, .deferred (some [])) (List.mem_cons_self ..), fun d' hd' e => by
      subst e
      have : ∀ ds : List Deferred, Marks E w ds → { target := .collected w.heap.size, args := #[] } ∈ ds → False := by
        intro ds
        induction ds with
        | nil => intro _ hm; simp at hm
        | cons d ds ih =>
          intro ⟨⟨b, k1, _, k3, _⟩, k5⟩ hm
          rcases List.mem_cons.1 hm with e | hm
          · rw [k1] at e
            have : w.heap.size = b := by simpa using e
            have := (Array.getElem?_eq_some_iff.1 k3).1
            omega
          · exact ih k5 hm
      exact this _ h2 hd'⟩, q3 w' fun x hx => hw' x (by simp [hx])⟩ }
  refine ⟨w.heap.size + 1, [{ target := .collected w.heap.size, args := #[] }], w1, { target := .fn (.func gf) vs.toArray, args := #[.func (.yield (w.heap.size + 1)) #[] #[]] }, w1, gf,
    #[.func (.yield (w.heap.size + 1)) #[] #[]] ++ vs.toArray, w1, ?_, ?_, ?_, ?_, fun h => (by cases h), ?_⟩
  · exact run_enterLoop_outer _ _ _ _ _
  · simp only [resolve, hv]
    simp [go_sem]
  · intro f' _; trivial
  · simp only [invoke]
    exact hcf _ _
  · refine callsIn_n (callsIn_of_wp_marks (n := 9) hf hb trivial (h S _ _ ⟨?_, trivial, r, ?_⟩))
    · have := Nat.le_of_ble_eq_true hn
      have := hcaps.length
      simp [RS.E1]; omega
    · have hmp : MapsOk (S.E1 fn.ntmps) r w1 g.maps (S.objs .ready none) := {
        at_ := H1.mp.at_, un := H1.mp.un, base := H1.mp.base, nodup := H1.mp.nodup
        obj := fun x hx => by
          rcases List.mem_cons.1 hx with rfl | hx
          · exact ⟨hL, rfl, by have := H.size; show E.w0.heap.size ≤ w.heap.size + 1; omega, rfl⟩
          · rcases List.mem_cons.1 hx with rfl | hx
            · exact ⟨hD, rfl, H.size, rfl⟩
            · exact ⟨hex x hx, (q1 x hx).2.1, (q1 x hx).2.2.1⟩
        objN := by
          show ((w.heap.size + 1, _) :: (w.heap.size, _) :: ex |>.map (·.1)).Nodup
          rw [List.map_cons, List.map_cons, List.nodup_cons, List.nodup_cons]
          refine ⟨fun hm => ?_, fun hm => ?_, q2⟩
          · rcases List.mem_cons.1 hm with e | hm
            · simp at e
            · obtain ⟨x, hx, e⟩ := List.mem_map.1 hm
              have := hexlt x hx
              simp only at e; omega
          · obtain ⟨x, hx, e⟩ := List.mem_map.1 hm
            have := hexlt x hx
            simp only at e; omega }
      exact {
        le := H1.le, cps := fun c hc => (List.mem_cons.1 hc).elim (fun e => e ▸ r.le_refl) (H1.cps c), ok := H1.ok, fresh := H1.fresh, size := H1.size, block := H1.block, unf := H1.unf, os := H1.os, tape := H1.tape, output := H1.output
        slots := fun s c' x e => by
          have hall : All2 r (A.val (.func (.yield (w.heap.size + 1)) #[] #[]) :: caps) (.func (.yield (w.heap.size + 1)) #[] #[] :: vs) := ⟨rfl, hcaps⟩
          have e' : look (params 0 (A.val (.func (.yield (w.heap.size + 1)) #[] #[]) :: caps)) s = some (c', x) := e
          obtain ⟨rfl, j, rfl, hj⟩ := look_params e'
          obtain ⟨v, hv', hp⟩ := hall.get j x hj
          refine ⟨fun _ => ?_, fun h => by cases h⟩
          have hlt : j < vs.length + 1 := (List.getElem?_eq_some_iff.1 hv').1
          have e2 : (#[Value.func (.yield (w.heap.size + 1)) #[] #[]] ++ vs.toArray ++ Array.replicate (fn.ntmps - (#[Value.func (.yield (w.heap.size + 1)) #[] #[]] ++ vs.toArray).size) undef).getD (0 + j) undef = v := by
            rw [Nat.zero_add, Array.getD_eq_getD_getElem?, Array.getElem?_append_left (by simp; omega)]
            have : (#[Value.func (.yield (w.heap.size + 1)) #[] #[]] ++ vs.toArray)[j]? = (Value.func (.yield (w.heap.size + 1)) #[] #[] :: vs)[j]? := by simp
            rw [this, hv']; rfl
          show x.p r (Array.getD _ _ _)
          rw [e2]; exact hp
        own := H1.own, ownB := H1.ownB, nodup := H1.nodup, room := H1.room, roomB := H1.roomB, roomN := H1.roomN, mp := hmp }

/-- What is asked when the round's left side has been assigned. -/
def RoundQ (S : RS E g ps as bd) (a1 : Act) (d : Nat) (ops : Array Oper) (rest : List Oper) (Q1 : Exit → Act → World → Prop) : Ending → World → Prop
  | .returned v, w => wpListIn (fz none) 9 E.P ops Q1 rest (a1.put (some d) v) w
  | .panicked chain, w => Q1 (.panic chain) a1 w
  | .outgrown, _ => LetsOut Q1
def AssignQ (S : RS E g ps as bd) (a1 : Act) (d : Nat) (ops : Array Oper) (rest : List Oper) (Q1 : Exit → Act → World → Prop) : Exit → Act → World → Prop :=
  Exit.then (fun a₁ w₁ => ∃ w₂, (Instr.beginRound S.l).run E.P w₁ = .ok () w₂ ∧ bd.wpIn (fz (some S.l)) 9 E.P (roundPost E.P S.l (RoundQ S a1 d ops rest Q1)) a₁ w₂) (fun _ _ _ => False)

/-- An iterator's frame, at a call of yield. -/
structure AtYield (S : RS E g ps as bd) (g1 : Ctx) (n : Nat) (a1 : Act) (r1 : Rho) : Prop where
  size : a1.tmps.size = n
  plain : a1.defers = []
  slots : Slots r1 a1 g1.sl

theorem marks_plain {E : Env} (h : E.plain = true) {w : World} : ∀ {ds : List Deferred}, Marks E w ds → ds = []
  | [], _ => rfl
  | _ :: _, ⟨⟨_, _, h2, _, _⟩, _⟩ => by rw [h2.2] at h; cases h

theorem WL_yield {S : RS E g ps as bd} {n : Nat} {g1 : Ctx} {ops : Array Oper} {rest : List Oper} {Q1 : Exit → Act → World → Prop} {d p : Nat} {yl x : Operand} {t : A} {tt : Array TypeId} {ty : TypeId} {pos : String} {aft : Array Edge}
    (hps : ps = #[p]) (hp : Nat.ble (p + 1) E.n = true) (hobj : g1.objs = S.objs .ready none) (hcp : S.r ∈ g1.cps) (hr : Reads g1.sl true [(true, yl, A.val (.func (.yield S.l) #[] #[])), (true, x, t)])
    (h : ∀ a1 r1, AtYield S g1 n a1 r1 → W S.E2 as ⟨(p, true, t) :: g.sl, g1.own, g1.rooms, g1.maps, S.objs .ready none, r1 :: g1.cps⟩ (AssignQ S a1 d ops rest Q1)) :
    WL (S.E1 n) ops (⟨some d, .call { callee := .value yl, args := #[x], argTypes := tt }, ty, pos, aft, none⟩ :: rest) g1 Q1 := by
  intro a w ⟨h1, h2, r, H⟩
  have hu := hr.use rfl H.slots
  have hy : a.eval yl = .func (.yield S.l) #[] #[] := hu (true, yl, A.val (.func (.yield S.l) #[] #[])) (by simp) rfl
  have hx : t.p r (a.eval x) := hu (true, x, t) (by simp) rfl
  have hrec : w.heap[S.l]? = some (.loop (S.rcd .ready none)) := (H.mp.obj (S.l, _) (by rw [hobj]; exact List.mem_cons_self ..)).1
  have hrun : (execOp a.eval ⟨some d, .call { callee := .value yl, args := #[x], argTypes := tt }, ty, pos, aft, none⟩).run E.P w = .ok (.round S.l S.fnid (S.a.tmps.setIfInBounds p (a.eval x)) as bd) w := by
    simp only [execOp, resolve, hy, Sem.run_bind, Deferred.ofValue, Sem.run_pure, Result.andThen_ok, invoke]
    have := run_yield (P := E.P) hrec (args := (#[x].map a.eval) ++ #[]) (by simp [RS.rcd, hps])
    simpa [RS.rcd, hps] using this
  have hat : AtYield S g1 n a r := ⟨h1, marks_plain rfl h2, H.slots⟩
  refine wpListIn_plain rfl fun K hK => ?_
  refine ⟨fun f _ => trivial, ?_⟩
  rw [Oper.semAt_eq _ _ _ (by simp)]
  show Oper.uponIn (fz none) 9 E.P _ a K Q1 ((execOp a.eval _).run E.P w)
  rw [hrun, Oper.uponIn_round]
  refine ⟨fun h => (by cases h), roundIn_n (n := 9) (roundIn_of_wpIn trivial ?_)⟩
  have hW := h a r hat { tmps := S.a.tmps.setIfInBounds p (a.eval x), defers := [] } w ⟨by simp [RS.E2, S.size], trivial, r, ?_⟩
  · refine wpIn_mono hW ?_
    intro e a₁ w₁ k
    cases e with
    | normal =>
      obtain ⟨w₂, k1, k2⟩ := k
      refine ⟨w₂, k1, wpIn_mono k2 ?_⟩
      have hR : ∀ e w, RoundQ S a d ops rest Q1 e w → (match e with
        | .returned v => K (a.put (some d) v) w
        | .panicked chain => Q1 (.panic chain) a w
        | .outgrown => LetsOut Q1) := by
        intro e w hq
        cases e with
        | returned v => exact hK _ _ hq
        | panicked chain => exact hq
        | outgrown => exact hq
      intro e a₂ w₃ q
      cases e with
      | normal => obtain ⟨v, w', q1, q2⟩ := q; exact ⟨v, w', q1, hR _ _ q2⟩
      | ret => obtain ⟨v, w', q1, q2⟩ := q; exact ⟨v, w', q1, hR _ _ q2⟩
      | exit id => obtain ⟨v, w', q1, q2⟩ := q; exact ⟨v, w', q1, hR _ _ q2⟩
      | goto t => obtain ⟨v, w', q1, q2⟩ := q; exact ⟨v, w', q1, hR _ _ q2⟩
      | panic chain => exact q.elim
      | outgrown => exact q.elim
    | _ => exact k.elim
  · refine H.env rfl rfl rfl rfl rfl rfl rfl hobj.symm (fun c hc => (List.mem_cons.1 hc).elim (fun e => e ▸ r.le_refl) (H.cps c)) ?_
    have hlt : p < S.a.tmps.size := by rw [S.size]; exact Nat.le_of_ble_eq_true hp
    exact Slots.put (a := { tmps := S.a.tmps, defers := [] }) (Slots.mono (fun s c y e => S.slots s c y e) (H.cps _ hcp)) hlt (fun _ => hx) (fun hc => by cases hc)

theorem Fin_begin {S : RS E g ps as bd} {r1 : Rho} {g2 : Ctx} {a1 : Act} {d : Nat} {ops : Array Oper} {rest : List Oper} {Q1 : Exit → Act → World → Prop} (hobj : g2.objs = S.objs .ready none)
    (h : W S.E2 bd { g2 with objs := S.objs .busy none } (roundPost E.P S.l (RoundQ S a1 d ops rest Q1))) : Fin S.E2 g2 .normal (AssignQ S a1 d ops rest Q1) := by
  intro a w ⟨h1, h2, r, H⟩
  have hrec : w.heap[S.l]? = some (.loop (S.rcd .ready none)) := (H.mp.obj (S.l, _) (by rw [hobj]; exact List.mem_cons_self ..)).1
  refine ⟨_, run_beginRound hrec rfl, h _ _ ⟨h1, ?_, r, H.putHead hobj rfl rfl⟩⟩
  rw [marks_plain rfl h2]; trivial

theorem roundEnd {S : RS E g ps as bd} {r1 : Rho} {g1 g3 : Ctx} {n : Nat} {a1 : Act} {d : Nat} {b : Bool} {ops : Array Oper} {rest : List Oper} {Q1 : Exit → Act → World → Prop} {st : LoopState} {pend : Option Code} (hat : AtYield S g1 n a1 r1) (hd : Nat.ble (d + 1) n = true) {cs : List Rho} (hc3 : ∀ c, c = r1 ∨ c ∈ cs → c ∈ g3.cps)
    (hN : WL (S.E1 n) ops rest ⟨(d, true, A.bool b) :: g1.sl, g3.own, g3.rooms, g3.maps, S.objs st pend, cs⟩ Q1) (hobj : g3.objs = S.objs .busy none) {a : Act} {w : World} {r : Rho} (H : HoldsAt S.E2 g3 r a w) :
    wpListIn (fz none) 9 E.P ops Q1 rest (a1.put (some d) (.bool b)) (w.putObj S.l (.loop (S.rcd st pend))) := by
  have H2 := H.putHead hobj (o' := .loop (S.rcd st pend)) rfl rfl
  have hle : r1.le r := H.cps _ (hc3 _ (.inl rfl))
  refine hN _ _ ⟨by rw [size_put]; exact hat.size, by rw [defers_put, hat.plain]; trivial, r, ?_⟩
  refine H2.env rfl rfl rfl rfl rfl rfl rfl rfl (fun c hc => H.cps c (hc3 c (.inr hc))) ?_
  · have hlt : d < a1.tmps.size := by rw [hat.size]; exact Nat.le_of_ble_eq_true hd
    exact Slots.put (Slots.mono hat.slots hle) hlt (fun _ => rfl) (fun hc => by cases hc)

theorem Fin_roundN {S : RS E g ps as bd} {r1 : Rho} {g1 g3 : Ctx} {n : Nat} {a1 : Act} {d : Nat} {ops : Array Oper} {rest : List Oper} {Q1 : Exit → Act → World → Prop} (hat : AtYield S g1 n a1 r1) (hd : Nat.ble (d + 1) n = true) (cs : List Rho) (hc3 : ∀ c, c = r1 ∨ c ∈ cs → c ∈ g3.cps)
    (hN : WL (S.E1 n) ops rest ⟨(d, true, A.bool true) :: g1.sl, g3.own, g3.rooms, g3.maps, S.objs .ready none, cs⟩ Q1) (hobj : g3.objs = S.objs .busy none) : Fin S.E2 g3 .normal (roundPost E.P S.l (RoundQ S a1 d ops rest Q1)) := by
  intro a w ⟨h1, h2, r, H⟩
  have hrec : w.heap[S.l]? = some (.loop (S.rcd .busy none)) := (H.mp.obj (S.l, _) (by rw [hobj]; exact List.mem_cons_self ..)).1
  exact ⟨_, _, run_endRound none hrec, roundEnd hat hd hc3 hN hobj H⟩
theorem Fin_roundR {S : RS E g ps as bd} {r1 : Rho} {g1 g3 : Ctx} {n : Nat} {a1 : Act} {d : Nat} {ops : Array Oper} {rest : List Oper} {Q1 : Exit → Act → World → Prop} (hat : AtYield S g1 n a1 r1) (hd : Nat.ble (d + 1) n = true) (cs : List Rho) (hc3 : ∀ c, c = r1 ∨ c ∈ cs → c ∈ g3.cps)
    (hN : WL (S.E1 n) ops rest ⟨(d, true, A.bool false) :: g1.sl, g3.own, g3.rooms, g3.maps, S.objs .done (some .ret), cs⟩ Q1) (hobj : g3.objs = S.objs .busy none) : Fin S.E2 g3 .ret (roundPost E.P S.l (RoundQ S a1 d ops rest Q1)) := by
  intro a w ⟨h1, h2, r, H⟩
  have hrec : w.heap[S.l]? = some (.loop (S.rcd .busy none)) := (H.mp.obj (S.l, _) (by rw [hobj]; exact List.mem_cons_self ..)).1
  exact ⟨_, _, run_endRound (some .ret) hrec, roundEnd hat hd hc3 hN hobj H⟩

theorem iterEnd {S : RS E g ps as bd} {n : Nat} {g1 : Ctx} {st : LoopState} {pend : Option Code} {a : Act} {w : World} {r : Rho} (H : HoldsAt (S.E1 n) g1 r a w) (hobj : g1.objs = S.objs st pend) (hcp : ∀ c, c = S.r ∨ c ∈ g.cps → c ∈ g1.cps) :
    Holds E ⟨g.sl, g1.own, g1.rooms, g1.maps, [], g.cps⟩ S.a' (w.putObj S.l (.loop { (S.rcd st pend) with state := .exhausted })) := by
  have H2 := H.putHead hobj (o' := .loop { (S.rcd st pend) with state := .exhausted }) rfl rfl
  refine ⟨S.size, S.marks _ fun x hx => (H2.mp.obj x (List.mem_cons_of_mem _ hx)).1, r, ?_⟩
  have H3 : HoldsAt (S.E1 n) ⟨g1.sl, g1.own, g1.rooms, g1.maps, [], g1.cps⟩ r a (w.putObj S.l (.loop { (S.rcd st pend) with state := .exhausted })) := { H2 with mp := ⟨H2.mp.at_, H2.mp.un, H2.mp.base, H2.mp.nodup, fun _ h => (by cases h), List.nodup_nil⟩ }
  exact H3.env rfl rfl rfl rfl rfl rfl rfl rfl (fun c hc => H.cps c (hcp c (.inr hc))) (Slots.mono S.slots (H.cps _ (hcp _ (.inl rfl))))

theorem iterRet {S : RS E g ps as bd} {fn : Func} {Q : Exit → Act → World → Prop} (hres : fn.results = #[]) {a : Act} {w : World} (hd : a.defers = []) (h : ∀ v, rangePost (fz none) 9 E.P S.l Q S.a' (.returned v) w) {e : Exit} (he : e = .normal ∨ e = .ret) : IterPost S fn Q e a w := by
  have key : LeavesInM (fz none) 9 E.P fn a.tmps (rangePost (fz none) 9 E.P S.l Q S.a') a.defers .returning w := by
    rw [hd]
    exact ⟨_, by simp [results, hres]; rfl, h _⟩
  rcases he with rfl | rfl
  · exact key
  · exact key
/-- The iterator has come to its end. -/
theorem Fin_iterN {S : RS E g ps as bd} {fn : Func} {g1 : Ctx} {Q : Exit → Act → World → Prop} (hres : fn.results = #[]) (hobj : g1.objs = S.objs .ready none) {e : Exit} (he : e = .normal ∨ e = .ret) (hcp : ∀ c, c = S.r ∨ c ∈ g.cps → c ∈ g1.cps)
    (h : Fin E ⟨g.sl, g1.own, g1.rooms, g1.maps, [], g.cps⟩ .normal Q) : Fin (S.E1 fn.ntmps) g1 e (IterPost S fn Q) := by
  intro a w ⟨h1, h2, r, H⟩
  have hrec : w.heap[S.l]? = some (.loop (S.rcd .ready none)) := (H.mp.obj (S.l, _) (by rw [hobj]; exact List.mem_cons_self ..)).1
  refine iterRet hres (marks_plain rfl h2) (fun v => ⟨none, _, run_endLoop hrec (by simp [RS.rcd]), ?_⟩) he
  exact h _ _ (iterEnd H hobj hcp)
/-- The body has been left by a return. -/
theorem Fin_iterR {S : RS E g ps as bd} {fn : Func} {g1 : Ctx} {Q : Exit → Act → World → Prop} (hro : E.rnd = none) (hres : fn.results = #[]) (hobj : g1.objs = S.objs .done (some .ret)) {e : Exit} (he : e = .normal ∨ e = .ret) (hcp : ∀ c, c = S.r ∨ c ∈ g.cps → c ∈ g1.cps)
    (h : Fin E ⟨g.sl, g1.own, g1.rooms, g1.maps, [], g.cps⟩ .ret Q) : Fin (S.E1 fn.ntmps) g1 e (IterPost S fn Q) := by
  intro a w ⟨h1, h2, r, H⟩
  have hrec : w.heap[S.l]? = some (.loop (S.rcd .done (some .ret))) := (H.mp.obj (S.l, _) (by rw [hobj]; exact List.mem_cons_self ..)).1
  refine iterRet hres (marks_plain rfl h2) (fun v => ⟨some .ret, _, run_endLoop hrec (by simp [RS.rcd]), ?_⟩) he
  exact wpIn_ret (h _ _ (iterEnd H hobj hcp))
end
end Go.L
