import Derived.WalkKit
import Derived.WalkLawsBesides
import Derived.RangeFuncNested
import Derived.RangeFuncLeaves
import Derived.OwnWalkIn
import Derived.OrdersIn
/-! A Hoare-like logic over `Code.wp`: contexts of facts on slots, a ghost read-only heap, owned blocks. -/
namespace Go.L
open Go Go.RowKit

abbrev Rho := Addr → Option Value
def Rho.le (r s : Rho) : Prop := ∀ a v, r a = some v → s a = some v
/-- What an object gives at an address: a cell, or (at a marked address) a map's entries. -/
def encMap (es : Array MapEntry) : Value := .tuple (es.map fun e => .tuple #[e.key, e.val])
def gc (o : Option Obj) (a : Addr) : Option Value :=
  match a.spot with
  | none => match o with | some (.cells c _ _) => c[a.off]? | _ => none
  | some _ => match o with | some (.map es _) => some (encMap es) | _ => none
def Rho.ok (r : Rho) (w : World) : Prop := ∀ a v, r a = some v → gc w.heap[a.block]? a = some v
theorem gc_lt {w : World} {a : Addr} {v : Value} (h : gc w.heap[a.block]? a = some v) : a.block < w.heap.size := by
  rcases Nat.lt_or_ge a.block w.heap.size with q | q
  · exact q
  · rw [Array.getElem?_eq_none q] at h
    unfold gc at h; split at h <;> cases h
theorem gc_cell {w : World} {b o : Nat} {v : Value} (h : gc w.heap[b]? ⟨b, o, none⟩ = some v) : w.cell? ⟨b, o, none⟩ = some v := by
  unfold gc at h
  unfold World.cell?
  simp only at h ⊢
  split at h
  · rename_i c e f hb; simp [hb, h]
  · cases h
theorem Rho.ok.cell {r : Rho} {w : World} (h : r.ok w) {b o : Nat} {v : Value} (e : r ⟨b, o, none⟩ = some v) : w.cell? ⟨b, o, none⟩ = some v := gc_cell (h _ _ e)
/-- Cells that may be written. -/
def Unf (w : World) (b : Nat) : Prop := ∀ cs ty fr, w.heap[b]? = some (.cells cs ty fr) → fr = (0, 0)
theorem Unf.same {w w' : World} {b : Nat} (h : Unf w b) (e : w'.heap[b]? = w.heap[b]?) : Unf w' b := fun cs ty fr k => h cs ty fr (e ▸ k)
/-- Numbers for numbers of the same kind, bools for bools. -/
def SameKind (v v' : Value) : Prop := (∃ k n n', v = .int k n ∧ v' = .int k n') ∨ ∃ b b', v = .bool b ∧ v' = .bool b'
theorem SameKind.trans {a b c : Value} (h : SameKind a b) (k : SameKind b c) : SameKind a c := by
  rcases h with ⟨k1, n, n', rfl, rfl⟩ | ⟨x, y, rfl, rfl⟩
  · rcases k with ⟨k2, m, m', e, rfl⟩ | ⟨x, y, e, _⟩
    · cases e; exact .inl ⟨_, _, _, rfl, rfl⟩
    · cases e
  · rcases k with ⟨k2, m, m', e, rfl⟩ | ⟨x', y', e, rfl⟩
    · cases e
    · cases e; exact .inr ⟨_, _, rfl, rfl⟩
/-- Grown, but for cells of K, which may hold others of their kind. -/
def Rho.leK (K : Addr → Prop) (r s : Rho) : Prop := ∀ a v, r a = some v → ∃ v', s a = some v' ∧ (v' = v ∨ (K a ∧ SameKind v v'))
theorem Rho.leK.trans_le {K : Addr → Prop} {r s t : Rho} (h : r.leK K s) (k : s.le t) : r.leK K t := fun a v e => let ⟨v', h1, h2⟩ := h a v e; ⟨v', k a v' h1, h2⟩
theorem Rho.leK.trans {K : Addr → Prop} {r s t : Rho} (h : r.leK K s) (k : s.leK K t) : r.leK K t := fun a v e => by
  obtain ⟨v1, h1, h2⟩ := h a v e
  obtain ⟨v2, k1, k2⟩ := k a v1 h1
  refine ⟨v2, k1, ?_⟩
  rcases h2 with rfl | ⟨h2, h3⟩
  · exact k2
  · rcases k2 with rfl | ⟨_, k3⟩
    · exact .inr ⟨h2, h3⟩
    · exact .inr ⟨h2, h3.trans k3⟩
theorem Rho.leK_refl (K : Addr → Prop) (r : Rho) : r.leK K r := fun _ v e => ⟨v, e, .inl rfl⟩
theorem Rho.le.leK {K : Addr → Prop} {r s : Rho} (h : r.le s) : r.leK K s := fun a v e => ⟨v, h a v e, .inl rfl⟩
theorem Rho.leK.le {r s : Rho} (h : r.leK (fun _ => False) s) : r.le s := fun a v e => by
  obtain ⟨v', h1, h2 | ⟨h2, _⟩⟩ := h a v e
  · rw [← h2]; exact h1
  · exact h2.elim
/-- What r has beyond c. -/
def Rho.minus (r c : Rho) : Rho := fun a => if c a = none then r a else none
theorem Rho.minus_le (r c : Rho) : (r.minus c).le r := fun a v e => by
  unfold Rho.minus at e; split at e
  · exact e
  · cases e
theorem Rho.minus_mono {r s c : Rho} (h : r.le s) : (r.minus c).le (s.minus c) := fun a v e => by
  unfold Rho.minus at e ⊢; split at e
  · rename_i hc; rw [if_pos hc]; exact h _ _ e
  · cases e
theorem Rho.minus_anti {r c d : Rho} (h : c.le d) : (r.minus d).le (r.minus c) := fun a v e => by
  unfold Rho.minus at e ⊢; split at e
  · rename_i hd
    rw [if_pos]; exact e
    cases hc : c a with
    | none => rfl
    | some x => rw [h _ _ hc] at hd; cases hd
  · cases e
theorem Rho.le_refl (r : Rho) : r.le r := fun _ _ h => h
theorem Rho.le_trans {r s t : Rho} (h : r.le s) (k : s.le t) : r.le t := fun a v x => k a v (h a v x)

/-- An assertion on a value, stable under growth of the read-only heap. -/
structure A where
  p : Rho → Value → Prop
  mono : ∀ {r s : Rho} {v : Value}, r.le s → p r v → p s v

def All2 (r : Rho) : List A → List Value → Prop
  | [], [] => True
  | c :: cs, v :: vs => c.p r v ∧ All2 r cs vs
  | _, _ => False
theorem All2.mono {r s : Rho} (h : r.le s) : ∀ {cs : List A} {vs : List Value}, All2 r cs vs → All2 s cs vs
  | [], [], _ => trivial
  | c :: _, _ :: _, x => ⟨c.mono h x.1, All2.mono h x.2⟩
theorem All2.length {r : Rho} : ∀ {cs : List A} {vs : List Value}, All2 r cs vs → cs.length = vs.length
  | [], [], _ => rfl
  | _ :: _, _ :: _, x => by simp [All2.length x.2]
theorem All2.get {r : Rho} : ∀ {cs : List A} {vs : List Value} (_ : All2 r cs vs) (i : Nat) (c : A), cs[i]? = some c → ∃ v, vs[i]? = some v ∧ c.p r v
  | c :: _, v :: _, x, 0, c', h => by simp at h; subst h; exact ⟨v, by simp, x.1⟩
  | _ :: _, _ :: _, x, i + 1, c', h => by simpa using All2.get x.2 i c' (by simpa using h)
  | [], [], _, i, c', h => by simp at h
theorem All2.append {r : Rho} : ∀ {cs ds : List A} {vs us : List Value}, All2 r cs vs → All2 r ds us → All2 r (cs ++ ds) (vs ++ us)
  | [], _, [], _, _, h => by simpa using h
  | _ :: _, _, _ :: _, _, x, h => ⟨x.1, All2.append x.2 h⟩
theorem All2.of_get {r : Rho} : ∀ {cs : List A} {vs : List Value}, cs.length = vs.length → (∀ (i : Nat) c v, cs[i]? = some c → vs[i]? = some v → c.p r v) → All2 r cs vs
  | [], [], _, _ => trivial
  | c :: cs, v :: vs, hl, h => ⟨h 0 c v (by simp) (by simp), All2.of_get (by simpa using hl) fun i c' v' hc hv => h (i + 1) c' v' (by simpa using hc) (by simpa using hv)⟩
  | [], _ :: _, hl, _ => by simp at hl
  | _ :: _, [], hl, _ => by simp at hl
theorem All2.split {r : Rho} : ∀ {cs ds : List A} {vs : List Value}, All2 r (cs ++ ds) vs → All2 r cs (vs.take cs.length) ∧ All2 r ds (vs.drop cs.length)
  | [], _, _, h => ⟨by simp [All2], by simpa using h⟩
  | _ :: _, _, _ :: _, h => by
    obtain ⟨h0, h1⟩ := h
    obtain ⟨h2, h3⟩ := All2.split h1
    exact ⟨⟨h0, by simpa using h2⟩, by simpa using h3⟩

namespace A
/-- The very value. -/
def val (v : Value) : A := ⟨fun _ x => x = v, fun _ h => h⟩
abbrev int (n : Int) : A := val (.int .i64 n)
abbrev bool (b : Bool) : A := val (.bool b)
abbrev u8 (n : Int) : A := val (.int .u8 n)
abbrev str (s : ByteArray) : A := val (.string s)
/-- Anything. -/
def any : A := ⟨fun _ _ => True, fun _ h => h⟩
def tup (l : List A) : A := ⟨fun r x => ∃ vs : Array Value, x = .tuple vs ∧ All2 r l vs.toList, fun h ⟨vs, e, k⟩ => ⟨vs, e, k.mono h⟩⟩
def agg (l : List A) : A := ⟨fun r x => ∃ vs : Array Value, x = .agg vs ∧ All2 r l vs.toList, fun h ⟨vs, e, k⟩ => ⟨vs, e, k.mono h⟩⟩
/-- The cells from an address on. -/
def CellsAt (r : Rho) (b o : Nat) (l : List A) : Prop := ∀ (i : Nat) c, l[i]? = some c → ∃ x, r ⟨b, o + i, none⟩ = some x ∧ c.p r x
theorem CellsAt.mono {r s : Rho} {b o : Nat} {l : List A} (h : r.le s) (k : CellsAt r b o l) : CellsAt s b o l :=
  fun i c e => let ⟨x, hx, hc⟩ := k i c e; ⟨x, h _ _ hx, c.mono h hc⟩
/-- A pointer to read-only cells. -/
def pt (l : List A) : A := ⟨fun r x => ∃ b o, x = .pointer (some ⟨b, o, none⟩) ∧ CellsAt r b o l, fun h ⟨b, o, e, k⟩ => ⟨b, o, e, k.mono h⟩⟩
/-- A slice whose elements take k cells each and read as f of the list's. -/
def sl {T : Type} (k : Nat) (f : T → List A) (L : List T) : A :=
  ⟨fun r x => ∃ a len cap, x = .slice a len cap ∧ len = L.length ∧ len ≤ cap ∧ cap ≤ maxLen ∧ (L ≠ [] → ∃ b o, a = some ⟨b, o, none⟩ ∧ ∀ (i : Nat) y, L[i]? = some y → CellsAt r b (o + i * k) (f y)),
   fun h ⟨a, len, cap, e, h1, h2, h3, k⟩ => ⟨a, len, cap, e, h1, h2, h3, fun hn => let ⟨b, o, ea, q⟩ := k hn; ⟨b, o, ea, fun i y hy => (q i y hy).mono h⟩⟩⟩
def ex {T : Type} (g : T → A) : A := ⟨fun r x => ∃ t, (g t).p r x, fun h ⟨t, k⟩ => ⟨t, (g t).mono h k⟩⟩
def st (q : Prop) (x : A) : A := ⟨fun r v => q ∧ x.p r v, fun h k => ⟨k.1, x.mono h k.2⟩⟩
/-- It held of an earlier part of the ghost heap. -/
def at_ (c : Rho) (x : A) : A := ⟨fun r v => c.le r ∧ x.p c v, fun h k => ⟨Rho.le_trans k.1 h, k.2⟩⟩
/-- It holds of what has come since. -/
def nw (c : Rho) (x : A) : A := ⟨fun r v => c.le r ∧ x.p (r.minus c) v, fun h k => ⟨Rho.le_trans k.1 h, x.mono (Rho.minus_mono h) k.2⟩⟩
def both (x y : A) : A := ⟨fun r v => x.p r v ∧ y.p r v, fun h k => ⟨x.mono h k.1, y.mono h k.2⟩⟩
end A

/-- From (r, w) to (s, w'): the read-only heap has grown by new cells alone, the world by new blocks alone. -/
structure Grow (r : Rho) (w : World) (s : Rho) (w' : World) : Prop where
  le : r.le s
  ok : s.ok w'
  fresh : ∀ a v, s a = some v → r a = some v ∨ (w.heap.size ≤ a.block ∧ Unf w' a.block)
  below : Below w.heap.size w w'

theorem Grow.refl {r : Rho} {w : World} (h : r.ok w) : Grow r w r w := ⟨r.le_refl, h, fun _ _ k => .inl k, Below.refl _ _⟩
theorem Rho.ok_lt {r : Rho} {w : World} (h : r.ok w) {a : Addr} {v : Value} (e : r a = some v) : a.block < w.heap.size := gc_lt (h a v e)
theorem Grow.trans {r s t : Rho} {w w1 w2 : World} (h : Grow r w s w1) (k : Grow s w1 t w2) : Grow r w t w2 :=
  ⟨Rho.le_trans h.le k.le, k.ok, fun a v e => (k.fresh a v e).elim (fun e1 => (h.fresh a v e1).elim .inl fun q => .inr ⟨q.1, q.2.same (k.below.block _ (Rho.ok_lt h.ok e1))⟩) fun q => .inr ⟨Nat.le_trans h.below.size q.1, q.2⟩, h.below.trans (k.below.mono h.below.size)⟩
/-- The world has grown, the ghost heap stays. -/
theorem Grow.same {r : Rho} {w w' : World} (h : r.ok w) (hb : Below w.heap.size w w') : Grow r w r w' :=
  ⟨r.le_refl, fun a v e => by rw [hb.block _ (Rho.ok_lt h e)]; exact h a v e, fun _ _ k => .inl k, hb⟩

abbrev Own := List (Nat × TypeId × List A)
/-- An owned block: outside the ghost heap, its cells known. -/
def OwnAt (r : Rho) (w : World) (b : Nat) (ty : TypeId) (cells : List A) : Prop :=
  (∀ o s, r ⟨b, o, s⟩ = none) ∧ ∃ vs, w.heap[b]? = some (.cells vs ty (0, 0)) ∧ All2 r cells vs.toList
def OwnOk (r : Rho) (w : World) (own : Own) : Prop := ∀ x ∈ own, OwnAt r w x.1 x.2.1 x.2.2
theorem OwnAt.lt {r : Rho} {w : World} {b : Nat} {ty : TypeId} {cells : List A} (h : OwnAt r w b ty cells) : b < w.heap.size := by
  obtain ⟨_, vs, e, _⟩ := h
  exact (Array.getElem?_eq_some_iff.1 e).1
theorem OwnAt.grow {r s : Rho} {w w' : World} {b : Nat} {ty : TypeId} {cells : List A} (h : OwnAt r w b ty cells) (g : Grow r w s w') : OwnAt s w' b ty cells := by
  have hlt := h.lt
  obtain ⟨h1, vs, e, k⟩ := h
  refine ⟨fun o sp => ?_, vs, by rw [g.below.block b hlt]; exact e, k.mono g.le⟩
  cases hs : s ⟨b, o, sp⟩ with
  | none => rfl
  | some v =>
    rcases g.fresh _ _ hs with q | q
    · rw [h1] at q; cases q
    · exact absurd q.1 (by simp; omega)
theorem OwnOk.grow {r s : Rho} {w w' : World} {own : Own} (h : OwnOk r w own) (g : Grow r w s w') : OwnOk s w' own := fun x hx => (h x hx).grow g

/-- What an operation that only reads, computes, makes new read-only memory or calls such a function comes to. -/
def Good (P : Program) (r : Rho) (w : World) (t : A) : Result Next → Prop
  | .ok (.value v) w' => ∃ s, Grow r w s w' ∧ t.p s v
  | .ok (.enter f args) w' => w' = w ∧ Calls P f args w fun e w'' => ∃ v s, e = .returned v ∧ Grow r w s w'' ∧ t.p s v
  | _ => False

/-- One such operation, from facts on its operands. -/
def OpU (P : Program) (own : Own) (need : List (Operand × A)) (o : Oper) (t : A) : Prop :=
  ∀ (r : Rho) (w : World) (a : Act), r.ok w → OwnOk r w own → (∀ x ∈ need, x.2.p r (a.eval x.1)) → Good P r w t ((execOp a.eval o).run P w)

/-- A contract of a function that only reads, computes and makes new read-only memory. -/
def FnC (P : Program) (f : FuncId) (args : List A) (t : A) : Prop :=
  ∀ (r : Rho) (w : World) (vs : List Value), r.ok w → All2 r args vs → Calls P f vs.toArray w fun e w' => ∃ v s, e = .returned v ∧ Grow r w s w' ∧ t.p s v

/-- A context: facts on slots (each under a condition), owned blocks, slices with room (element type and size beside). -/
structure Ctx where
  sl : List (Nat × Bool × A)
  own : Own := []
  rooms : List (Value × Nat × Nat) := []
  /-- maps of the function's own: block, entries in their order -/
  maps : List (Nat × List (Value × A)) := []
  /-- other objects, as they lie -/
  objs : List (Nat × Obj) := []
  /-- earlier parts of the ghost heap -/
  cps : List Rho := []

def look : List (Nat × Bool × A) → Nat → Option (Bool × A)
  | [], _ => none
  | (t, c, x) :: l, s => if t == s then some (c, x) else look l s

def Ctx.set (g : Ctx) (s : Nat) (x : A) : Ctx := { g with sl := (s, true, x) :: g.sl }
def Ctx.setc (g : Ctx) (s : Nat) (c : Bool) (x : A) : Ctx := { g with sl := (s, c, x) :: g.sl }

structure Env where
  P : Program
  n : Nat
  w0 : World
  r0 : Rho
  X : Nat → Prop
  /-- the round that the frame is of -/
  rnd : Option Nat := none
  /-- a frame that defers nothing -/
  plain : Bool := false
  /-- cells that came in and may hold others of their kind -/
  K : Addr → Prop := fun _ => False
/-- A block that may be written. -/
def Env.base (E : Env) (b : Nat) : Prop := E.X b ∨ E.w0.heap.size ≤ b
def Env.low (E : Env) (b : Nat) : Prop := E.w0.heap.size ≤ b ∧ E.plain = false

/-- The fence that lets all in. -/
def fz (ro : Option Nat) : Fence := { fn := fun _ => True, depth := none, alive := false, round := ro }
theorem calls_fz {n : Nat} {P : Program} {f : FuncId} {args : Array Value} {w : World} {R : Ending → World → Prop} {ro : Option Nat} (h : Calls P f args w R) : CallsIn (fz ro) n P f args w R := by
  have k : CallsIn Fence.wide n P f args w R := callsIn_wide.2 h
  cases ro with
  | none => exact k
  | some l => exact k.inRound l

/-- The slice's own block, where it has one. -/
def roomBlock : Value → Option Nat
  | .slice (some a) _ _ => some a.block
  | _ => none
def RoomOk (r : Rho) (w : World) (x : Value × Nat × Nat) : Prop :=
  match x.1 with
  | .slice none n c => n = 0 ∧ c = 0
  | .slice (some a) n c => a.off = 0 ∧ a.spot = none ∧ n ≤ c ∧ c ≤ maxLen ∧ (∃ vs, w.heap[a.block]? = some (.cells vs x.2.1 (0, 0)) ∧ vs.size = c * x.2.2) ∧ ∀ o s, n * x.2.2 ≤ o → r ⟨a.block, o, s⟩ = none
  | _ => False

/-- A map: its entries. -/
def MapAt (r : Rho) (w : World) (b : Nat) (es : List (Value × A)) : Prop :=
  ∃ arr clock, w.heap[b]? = some (.map arr clock) ∧ arr.toList.map (·.key) = es.map (·.1) ∧ All2 r (es.map (·.2)) (arr.toList.map (·.val))
def isMapO : Obj → Bool
  | .map .. => true
  | _ => false
/-- Maps of one's own, other objects as they lie. -/
structure MapsOk (E : Env) (r : Rho) (w : World) (l : List (Nat × List (Value × A))) (os : List (Nat × Obj)) : Prop where
  at_ : ∀ x ∈ l, MapAt r w x.1 x.2
  un : ∀ x ∈ l, ∀ o s, r ⟨x.1, o, s⟩ = none
  base : ∀ x ∈ l, E.base x.1
  nodup : (l.map (·.1)).Nodup
  obj : ∀ x ∈ os, w.heap[x.1]? = some x.2 ∧ x.2.isCells = false ∧ E.w0.heap.size ≤ x.1 ∧ isMapO x.2 = false
  objN : (os.map (·.1)).Nodup
theorem MapsOk.nil {E : Env} {r : Rho} {w : World} : MapsOk E r w [] [] := ⟨fun _ h => (by cases h), fun _ h => (by cases h), fun _ h => (by cases h), List.nodup_nil, fun _ h => (by cases h), List.nodup_nil⟩
theorem MapAt.lt {r : Rho} {w : World} {b : Nat} {es : List (Value × A)} (h : MapAt r w b es) : b < w.heap.size := by
  obtain ⟨arr, cl, e, _⟩ := h; exact (Array.getElem?_eq_some_iff.1 e).1
theorem MapsOk.stay {E : Env} {r r' : Rho} {w w' : World} {l : List (Nat × List (Value × A))} {os : List (Nat × Obj)} (h : MapsOk E r w l os) (hr : r.le r') (hf : ∀ x ∈ l, ∀ o s, r' ⟨x.1, o, s⟩ = none) (hw : ∀ (b : Nat) (o : Obj), o.isCells = false → w.heap[b]? = some o → w'.heap[b]? = some o) : MapsOk E r' w' l os :=
  ⟨fun x hx => let ⟨arr, cl, h1, h2, h3⟩ := h.at_ x hx; ⟨arr, cl, hw _ _ rfl h1, h2, h3.mono hr⟩, hf, h.base, h.nodup, fun x hx => let ⟨h1, h2, h3⟩ := h.obj x hx; ⟨hw _ _ h2 h1, h2, h3⟩, h.objN⟩
theorem MapsOk.grow {E : Env} {r s : Rho} {w w' : World} {l : List (Nat × List (Value × A))} {os : List (Nat × Obj)} (h : MapsOk E r w l os) (g : Grow r w s w') : MapsOk E s w' l os :=
  h.stay g.le (fun x hx o sp => by
    cases hs : s ⟨x.1, o, sp⟩ with
    | none => rfl
    | some v =>
      rcases g.fresh _ _ hs with q | q
      · rw [h.un x hx] at q; cases q
      · exact absurd q.1 (by have := (h.at_ x hx).lt; simp; omega)) fun b o _ hb => by rw [g.below.block b (Array.getElem?_eq_some_iff.1 hb).1]; exact hb

structure HoldsAt (E : Env) (g : Ctx) (r : Rho) (a : Act) (w : World) : Prop where
  le : E.r0.leK E.K r
  cps : ∀ c ∈ g.cps, c.le r
  ok : r.ok w
  fresh : ∀ x v, r x = some v → ((∃ v0, E.r0 x = some v0) ∧ ¬ E.K x) ∨ (E.base x.block ∧ Unf w x.block)
  size : E.w0.heap.size ≤ w.heap.size
  block : ∀ k, k < E.w0.heap.size → ¬ E.X k → w.heap[k]? = E.w0.heap[k]?
  unf : ∀ b, b < E.w0.heap.size → Unf E.w0 b → Unf w b
  os : w.os = E.w0.os
  tape : w.tape = E.w0.tape
  output : w.output = E.w0.output
  slots : ∀ s c x, look g.sl s = some (c, x) → (c = true → x.p r (a.tmps.getD s undef)) ∧ (c = false → a.tmps.getD s undef = undef)
  own : OwnOk r w g.own
  ownB : ∀ x ∈ g.own, E.base x.1
  nodup : (g.own.map (·.1)).Nodup
  room : ∀ x ∈ g.rooms, RoomOk r w x
  roomB : ∀ x ∈ g.rooms, ∀ b, roomBlock x.1 = some b → E.base b ∧ b ∉ g.own.map (·.1)
  roomN : (g.rooms.filterMap fun x => roomBlock x.1).Nodup
  mp : MapsOk E r w g.maps g.objs

/-- The marks of the ranges over functions that the activation has been through: their blocks hold no deferred call. -/
def Marks (E : Env) (w : World) : List Deferred → Prop
  | [] => True
  | d :: l => (∃ b, d = { target := .collected b, args := #[] } ∧ E.low b ∧ w.heap[b]? = some (.deferred (some [])) ∧ ∀ d' ∈ l, d' ≠ d) ∧ Marks E w l
def Holds (E : Env) (g : Ctx) (a : Act) (w : World) : Prop := a.tmps.size = E.n ∧ Marks E w a.defers ∧ ∃ r, HoldsAt E g r a w

def Fin (E : Env) (g : Ctx) (e : Exit) (Q : Exit → Act → World → Prop) : Prop := ∀ a w, Holds E g a w → Q e a w
def W (E : Env) (c : Code) (g : Ctx) (Q : Exit → Act → World → Prop) : Prop := ∀ a w, Holds E g a w → c.wpIn (fz E.rnd) 9 E.P Q a w
def WL (E : Env) (ops : Array Oper) (l : List Oper) (g : Ctx) (Q : Exit → Act → World → Prop) : Prop := ∀ a w, Holds E g a w → wpListIn (fz E.rnd) 9 E.P ops Q l a w

theorem least {p : Nat → Prop} (h : ∃ n, p n) : ∃ n, p n ∧ ∀ k, p k → n ≤ k := by
  obtain ⟨n, hn⟩ := h
  induction n using Nat.strongRecOn with
  | _ n ih =>
    by_cases hk : ∃ k, k < n ∧ p k
    · obtain ⟨k, hlt, hp⟩ := hk; exact ih k hlt hp
    · exact ⟨n, hn, fun k hp => Nat.le_of_not_lt fun hlt => hk ⟨k, hlt, hp⟩⟩

section rules
variable {E : Env} {g : Ctx} {Q : Exit → Act → World → Prop}
theorem W_skip (h : Fin E g .normal Q) : W E .skip g Q := fun a w k => wpIn_skip (h a w k)
theorem W_exit {id : Nat} (h : Fin E g (.exit id) Q) : W E (.exit id) g Q := fun a w k => wpIn_exit (h a w k)
theorem W_ret (h : Fin E g .ret Q) : W E .ret g Q := fun a w k => wpIn_ret (h a w k)
theorem W_seq {x y : Code} (h : W E x g (Exit.then (y.wpIn (fz E.rnd) 9 E.P Q) Q)) : W E (.seq x y) g Q := fun a w k => wpIn_seq (h a w k)
theorem W_block {id : Nat} {c : Code} (h : W E c g (Exit.inBlock id Q)) : W E (.block id c) g Q := fun a w k => wpIn_block (h a w k)
theorem Fin_then {y : Code} (h : W E y g Q) : Fin E g .normal (Exit.then (y.wpIn (fz E.rnd) 9 E.P Q) Q) := h
theorem Fin_then_exit {id : Nat} {N : Act → World → Prop} (h : Fin E g (.exit id) Q) : Fin E g (.exit id) (Exit.then N Q) := h
theorem Fin_then_ret {N : Act → World → Prop} (h : Fin E g .ret Q) : Fin E g .ret (Exit.then N Q) := h
theorem Fin_block {id : Nat} (h : Fin E g .normal Q) : Fin E g .normal (Exit.inBlock id Q) := h
theorem Fin_block_ret {id : Nat} (h : Fin E g .ret Q) : Fin E g .ret (Exit.inBlock id Q) := h
theorem Fin_block_exit {id : Nat} (h : Fin E g .normal Q) : Fin E g (.exit id) (Exit.inBlock id Q) := fun a w k => by
  simp only [Exit.inBlock, if_true]; exact h a w k
theorem Fin_block_past {id id' : Nat} (hne : (id' == id) = false) (h : Fin E g (.exit id') Q) : Fin E g (.exit id') (Exit.inBlock id Q) := fun a w k => by
  have : ¬ id' = id := by simpa using hne
  simp only [Exit.inBlock, this, if_false]; exact h a w k
theorem W_cond {s : Nat} {x y : Code} {b : Bool} (hs : look g.sl s = some (true, A.bool b)) (ht : b = true → W E x g Q) (hf : b = false → W E y g Q) :
    W E (.cond (.tmp s) x y) g Q := fun a w k => by
  obtain ⟨h1, h2, r, H⟩ := k
  have e : a.eval (.tmp s) = .bool b := (H.slots s true _ hs).1 rfl
  exact wpIn_cond_split e (fun q => ht q a w ⟨h1, h2, r, H⟩) (fun q => hf q a w ⟨h1, h2, r, H⟩)
theorem W_region {id : Nat} {l : List Oper} (h : WL E l.toArray l g Q) : W E (.region id l.toArray false) g Q := fun a w k => wpIn_region_lit (h a w k)
theorem WL_nil {ops : Array Oper} (h : Fin E g .normal Q) : WL E ops [] g Q := fun a w k => wpListIn_nil (h a w k)
/-- Fewer facts. -/
theorem W_weaken {c : Code} {g' : Ctx} (hs : ∀ a w, Holds E g a w → Holds E g' a w) (h : W E c g' Q) : W E c g Q := fun a w k => h a w (hs a w k)

/-- A loop, with a ghost variable. -/
theorem W_loop {c : Code} {T : Type} (q : T → Prop) (I : T → Ctx) (m : T → Nat) (h0 : ∃ x, q x ∧ ∀ a w, Holds E g a w → Holds E (I x) a w)
    (round : ∀ x, q x → W E c (I x) (Exit.then (fun a w => ∃ x', q x' ∧ m x' < m x ∧ Holds E (I x') a w) Q)) : W E (.loop c) g Q := by
  intro a w k
  obtain ⟨x0, hq0, h0⟩ := h0
  have key : ∀ x, q x → ∀ a w, Holds E (I x) a w → (Code.loop c).wpIn (fz E.rnd) 9 E.P Q a w := by
    classical
    let low (a : Act) (w : World) : Nat := if h : ∃ n, ∃ x, q x ∧ m x = n ∧ Holds E (I x) a w then Classical.choose (least h) else 0
    have low_le : ∀ x a w, q x → Holds E (I x) a w → low a w ≤ m x := fun x a w hq hx => by
      have hex : ∃ n, ∃ x, q x ∧ m x = n ∧ Holds E (I x) a w := ⟨m x, x, hq, rfl, hx⟩
      simp only [low, hex, dif_pos]
      exact (Classical.choose_spec (least hex)).2 _ ⟨x, hq, rfl, hx⟩
    have low_mem : ∀ x a w, q x → Holds E (I x) a w → ∃ y, q y ∧ m y = low a w ∧ Holds E (I y) a w := fun x a w hq hx => by
      have hex : ∃ n, ∃ x, q x ∧ m x = n ∧ Holds E (I x) a w := ⟨m x, x, hq, rfl, hx⟩
      have := (Classical.choose_spec (least hex)).1
      simp only [low, hex, dif_pos]
      exact this
    intro x hq a w hx
    refine wpIn_loop (fun a w => ∃ x, q x ∧ Holds E (I x) a w) low ⟨x, hq, hx⟩ ?_
    rintro a w ⟨x, hq, hx⟩
    obtain ⟨y, hqy, hy, hI⟩ := low_mem x a w hq hx
    refine wpIn_mono (round y hqy a w hI) ?_
    intro e a' w' k
    cases e with
    | normal =>
      obtain ⟨x', hq', hlt, hx'⟩ := k
      exact ⟨⟨x', hq', hx'⟩, by have := low_le x' a' w' hq' hx'; omega⟩
    | _ => exact k
  exact key x0 hq0 a w (h0 a w k)

/-- Each fact of the second list follows from the first. -/
def Facts (av : List (Nat × Bool × A)) : List (Nat × Bool × A) → Prop
  | [] => True
  | (s, c, t) :: l => (c = true ∧ ∃ u, look av s = some (true, u) ∧ ∀ r v, u.p r v → t.p r v) ∧ Facts av l
theorem Facts.use {av : List (Nat × Bool × A)} {s : Nat} {c : Bool} {t : A} : ∀ {l : List (Nat × Bool × A)}, Facts av l → look l s = some (c, t) → c = true ∧ ∃ u, look av s = some (true, u) ∧ ∀ r v, u.p r v → t.p r v
  | (s', c', t') :: l, h, e => by
    unfold look at e
    by_cases q : s' = s
    · subst q; simp at e; obtain ⟨rfl, rfl⟩ := e; exact h.1
    · rw [if_neg (by simpa using q)] at e; exact Facts.use h.2 e
/-- Fewer slots' facts, the rest as it is. -/
theorem Holds.facts {g' : Ctx} {a : Act} {w : World} (h : Holds E g a w) (hs : Facts g.sl g'.sl) (ho : g'.own = g.own) (hr : g'.rooms = g.rooms) (hm : g'.maps = g.maps) (hob : g'.objs = g.objs) (hc : ∀ c ∈ g'.cps, c ∈ g.cps) : Holds E g' a w := by
  obtain ⟨h1, h2, r, H⟩ := h
  refine ⟨h1, h2, r, ?_⟩
  obtain ⟨sl', own', rooms', maps', objs', cps'⟩ := g'
  simp only at ho hr hs hm hob hc
  subst ho; subst hr; subst hm; subst hob
  have hsl : ∀ s c x, look sl' s = some (c, x) → (c = true → x.p r (a.tmps.getD s undef)) ∧ (c = false → a.tmps.getD s undef = undef) := by
    intro s c t e
    obtain ⟨rfl, u, hu, k⟩ := hs.use e
    exact ⟨fun _ => k _ _ ((H.slots s true u hu).1 rfl), fun h => by cases h⟩
  exact { H with slots := hsl, cps := fun c h => H.cps c (hc c h) }

/-- The facts on some slots. -/
def keep (av : List (Nat × Bool × A)) : List Nat → List (Nat × Bool × A)
  | [] => []
  | s :: l => match look av s with
    | some (true, t) => (s, true, t) :: keep av l
    | _ => keep av l
def Kept (av av' : List (Nat × Bool × A)) : List Nat → Prop
  | [] => True
  | s :: l => look av' s = look av s ∧ Kept av av' l
theorem Facts.keep {av av' : List (Nat × Bool × A)} : ∀ {l : List Nat}, Kept av av' l → Facts av' (keep av l)
  | [], _ => trivial
  | s :: l, h => by
    unfold L.keep
    split
    · rename_i t e
      exact ⟨⟨rfl, t, h.1.trans e, fun _ _ k => k⟩, Facts.keep h.2⟩
    · exact Facts.keep h.2
theorem Kept.self {av : List (Nat × Bool × A)} : ∀ {l : List Nat}, Kept av av l
  | [] => trivial
  | _ :: _ => ⟨rfl, Kept.self⟩
theorem Facts.append {av : List (Nat × Bool × A)} : ∀ {l l' : List (Nat × Bool × A)}, Facts av l → Facts av l' → Facts av (l ++ l')
  | [], _, _, h => h
  | _ :: _, _, h, k => ⟨h.1, Facts.append h.2 k⟩

/-- A loop that changes no owned block: J says what holds of the slots that it writes; the slots ks stay as they are. -/
theorem W_loopk {c : Code} {T : Type} (ks : List Nat) (q : T → Prop) (J : T → List (Nat × Bool × A)) (m : T → Nat) (x0 : T) (hq : q x0) (h0 : Facts g.sl (J x0))
    (round : ∀ x, q x → W E c { g with sl := J x ++ keep g.sl ks } (Exit.then (fun a w => ∃ x', q x' ∧ m x' < m x ∧ Holds E { g with sl := J x' ++ keep g.sl ks } a w) Q)) : W E (.loop c) g Q :=
  W_loop q (fun x => { g with sl := J x ++ keep g.sl ks }) m ⟨x0, hq, fun _ _ h => h.facts (Facts.append h0 (Facts.keep Kept.self)) rfl rfl rfl rfl (fun _ h => h)⟩ round
theorem Fin_back {T : Type} {ks : List Nat} {q : T → Prop} {J : T → List (Nat × Bool × A)} {m : T → Nat} {x : T} {g' : Ctx} {N : Exit → Act → World → Prop} (x' : T) (hq : q x') (hm : m x' < m x) (h : Facts g'.sl (J x'))
    (hk : Kept g.sl g'.sl ks) (ho : g.own = g'.own) (hr : g.rooms = g'.rooms) (hmp : g.maps = g'.maps := by rfl) (hob : g.objs = g'.objs := by rfl) (hc : g.cps = g'.cps := by rfl) :
    Fin E g' .normal (Exit.then (fun a w => ∃ x', q x' ∧ m x' < m x ∧ Holds E { g with sl := J x' ++ keep g.sl ks } a w) N) :=
  fun _ _ H => ⟨x', hq, hm, H.facts (Facts.append h (Facts.keep hk)) ho hr hmp hob (fun c h => hc ▸ h)⟩
end rules
/-- Conditions as propositions: one name for all rules. -/
theorem bl : (∀ (p : Prop) [Decidable p], (decide p = true) = p) ∧ (∀ (p : Prop) [Decidable p], (decide p = false) = ¬p) ∧ (∀ a b : Bool, ((a || b) = true) = (a = true ∨ b = true)) ∧ (∀ a b : Bool, ((a && b) = true) = (a = true ∧ b = true)) ∧
    (∀ a b : Bool, ((a || b) = false) = (a = false ∧ b = false)) ∧ (∀ a b : Bool, ((a && b) = false) = (a = true → b = false)) ∧ (∀ a : Bool, ((!a) = true) = (a = false)) ∧ (∀ a : Bool, ((!a) = false) = (a = true)) ∧ (∀ a : Bool, (¬(a = true)) = (a = false)) ∧ (∀ a : Bool, (¬(a = false)) = (a = true)) ∧
    (∀ a b : Int, (¬(a < b)) = (b ≤ a)) ∧ (∀ a b : Int, (¬(a ≤ b)) = (b < a)) ∧ (∀ a : Bool, (true && a) = a) ∧ (∀ a : Bool, (a && true) = a) ∧ (∀ a : Bool, (false || a) = a) ∧ (∀ a : Bool, (a || false) = a) ∧ (∀ m n : Nat, ((m : Int) = (n : Int)) = (m = n)) := by
  refine ⟨fun p _ => by simp, fun p _ => by simp, fun a b => by simp, fun a b => by simp, fun a b => by simp, fun a b => by simp, fun a => by simp, fun a => by simp, fun a => by simp, fun a => by simp, fun a b => by simp, fun a b => by simp, fun a => by simp, fun a => by simp, fun a => by simp, fun a => by simp, fun m n => by simp; omega⟩
end Go.L
