import Derived.Test.YtfjggobjijeniaaOps
/-! A function's body: entry and return. -/
namespace Go.L
open Go Go.RowKit

def params : Nat → List A → List (Nat × Bool × A)
  | _, [] => []
  | i, t :: l => (i, true, t) :: params (i + 1) l

theorem look_params {s : Nat} {c : Bool} {x : A} : ∀ {l : List A} {i : Nat}, look (params i l) s = some (c, x) → c = true ∧ ∃ j, s = i + j ∧ l[j]? = some x
  | [], _, h => by simp [params, look] at h
  | t :: l, i, h => by
    simp only [params, look] at h
    by_cases e : i = s
    · subst e; simp at h; obtain ⟨rfl, rfl⟩ := h; exact ⟨rfl, 0, by simp, by simp⟩
    · rw [if_neg (by simpa using e)] at h
      obtain ⟨h1, j, h2, h3⟩ := look_params h
      exact ⟨h1, j + 1, by omega, by simpa using h3⟩

/-- What a call leaves, said of the world in which it began. -/
def RetPost (r : Rho) (w : World) (t : A) (e : Ending) (w' : World) : Prop := ∃ v s, e = .returned v ∧ Grow r w s w' ∧ t.p s v
/-- A contract of a function whose result is new memory. -/
def FnN (P : Program) (f : FuncId) (args : List A) (t : A) : Prop :=
  ∀ (r : Rho) (w : World) (vs : List Value), r.ok w → All2 r args vs → Calls P f vs.toArray w (RetPost r w (A.nw r t))

/-- Memory of one's own. -/
structure Mem where
  own : Own := []
  rooms : List (Value × Nat × Nat) := []
  maps : List (Nat × List (Value × A)) := []
def Mem.blk (m : Mem) (b : Nat) : Prop := b ∈ m.own.map (·.1) ∨ b ∈ m.rooms.filterMap (fun x => roomBlock x.1) ∨ b ∈ m.maps.map (·.1)
structure MemOk (r : Rho) (w : World) (m : Mem) : Prop where
  own : OwnOk r w m.own
  room : ∀ x ∈ m.rooms, RoomOk r w x
  maps : ∀ x ∈ m.maps, MapAt r w x.1 x.2
  mapu : ∀ x ∈ m.maps, ∀ o s, r ⟨x.1, o, s⟩ = none
  nodO : (m.own.map (·.1)).Nodup
  roomD : ∀ x ∈ m.rooms, ∀ b, roomBlock x.1 = some b → b ∉ m.own.map (·.1)
  nodR : (m.rooms.filterMap fun x => roomBlock x.1).Nodup
  nodM : (m.maps.map (·.1)).Nodup
/-- The world has grown; blocks of X may have changed, others have not. -/
structure GrowX (X : Nat → Prop) (r : Rho) (w : World) (s : Rho) (w' : World) : Prop where
  le : r.le s
  ok : s.ok w'
  fresh : ∀ a v, s a = some v → r a = some v ∨ ((X a.block ∨ w.heap.size ≤ a.block) ∧ Unf w' a.block)
  size : w.heap.size ≤ w'.heap.size
  block : ∀ k, k < w.heap.size → ¬ X k → w'.heap[k]? = w.heap[k]?
  unf : ∀ b, b < w.heap.size → Unf w b → Unf w' b
  os : w'.os = w.os
  tape : w'.tape = w.tape
  output : w'.output = w.output
def RetX {T : Type} (m : Mem) (r : Rho) (w : World) (t : T → A) (m' : T → Mem) (e : Ending) (w' : World) : Prop :=
  ∃ v s x, e = .returned v ∧ GrowX m.blk r w s w' ∧ (t x).p s v ∧ MemOk s w' (m' x) ∧ ∀ b, (m' x).blk b → m.blk b ∨ w.heap.size ≤ b
/-- A contract of a function with memory of its caller's. -/
def FnX {T : Type} (P : Program) (f : FuncId) (m : Mem) (args : List A) (t : T → A) (m' : T → Mem) : Prop :=
  ∀ (r : Rho) (w : World) (vs : List Value), r.ok w → MemOk r w m → All2 r args vs → Calls P f vs.toArray w (RetX m r w t m')
/-- The world has grown; cells of K hold others of their kind. -/
structure GrowK (K : Addr → Prop) (r : Rho) (w : World) (s : Rho) (w' : World) : Prop where
  le : r.leK K s
  ok : s.ok w'
  fresh : ∀ a v, s a = some v → ((∃ v0, r a = some v0) ∧ ¬ K a) ∨ (((∃ b, K b ∧ b.block = a.block) ∨ w.heap.size ≤ a.block) ∧ Unf w' a.block)
  size : w.heap.size ≤ w'.heap.size
  block : ∀ k, k < w.heap.size → (∀ b, K b → b.block ≠ k) → w'.heap[k]? = w.heap[k]?
  unf : ∀ b, b < w.heap.size → Unf w b → Unf w' b
  os : w'.os = w.os
  tape : w'.tape = w.tape
  output : w'.output = w.output
/-- Cells of r beyond c. -/
def Rho.beyond (r c : Rho) (a : Addr) : Prop := c a = none ∧ a.spot = none ∧ ∃ v, r a = some v
/-- A contract of a function that writes numbers and bools into what it was handed. -/
def FnK (P : Program) (f : FuncId) (args : List A) (t : A) : Prop :=
  ∀ (c r : Rho) (w : World) (vs : List Value), r.ok w → c.le r → (∀ a, r.beyond c a → Unf w a.block) → All2 (r.minus c) args vs →
    Calls P f vs.toArray w fun e w' => ∃ v s, e = .returned v ∧ GrowK (r.beyond c) r w s w' ∧ ∀ s', t.p s' v

/-- A block that is no cells, laid since the call began, may turn. -/
theorem HoldsAt.putObj {E : Env} {g : Ctx} {r : Rho} {a : Act} {w : World} (H : HoldsAt E g r a w) {l : Nat} {o o' : Obj} (hl : w.heap[l]? = some o) (ho : o.isCells = false) (hnm : ∀ es cl, o ≠ .map es cl) (ho' : o'.isCells = false) (hm : g.objs = []) (hb : E.w0.heap.size ≤ l) : HoldsAt E g r a (w.putObj l o') := by
  have same : ∀ (b : Nat) cs ty fr, w.heap[b]? = some (Obj.cells cs ty fr) → (w.putObj l o').heap[b]? = some (Obj.cells cs ty fr) := by
    intro b cs ty fr hbb
    have hne : b ≠ l := fun e => by subst e; rw [hl] at hbb; cases hbb; cases ho
    rw [World.putObj_heap_other hne]; exact hbb
  have hlt : l < w.heap.size := (Array.getElem?_eq_some_iff.1 hl).1
  have cell : ∀ x v, gc w.heap[x.block]? x = some v → gc (w.putObj l o').heap[x.block]? x = some v := by
    intro x v hx
    by_cases q : x.block = l
    · exfalso
      rw [q, hl] at hx
      unfold gc at hx
      split at hx
      · split at hx
        · rename_i heq; cases heq; cases ho
        · cases hx
      · split at hx
        · rename_i heq; cases heq; exact hnm _ _ rfl
        · cases hx
    · rw [World.putObj_heap_other q]; exact hx
  have unf : ∀ b, Unf w b → Unf (w.putObj l o') b := by
    intro b hU cs ty fr e
    by_cases q : b = l
    · subst q; rw [World.putObj_heap_same hlt] at e; cases e; cases ho'
    · rw [World.putObj_heap_other q] at e; exact hU _ _ _ e
  exact {
    le := H.le
    cps := H.cps
    ok := fun x v e => cell x v (H.ok x v e)
    fresh := fun x v e => (H.fresh x v e).elim .inl fun q => .inr ⟨q.1, unf _ q.2⟩
    size := by rw [World.putObj_size]; exact H.size
    block := fun k hk hx => by rw [World.putObj_heap_other (by omega)]; exact H.block k hk hx
    unf := fun b hb hu => unf b (H.unf b hb hu)
    os := H.os
    tape := H.tape
    output := H.output
    slots := H.slots
    own := fun x hx => by
      obtain ⟨h1, vs, h2, h3⟩ := H.own x hx
      exact ⟨h1, vs, same _ _ _ _ h2, h3⟩
    ownB := H.ownB
    nodup := H.nodup
    room := fun x hx => by
      have := H.room x hx
      unfold RoomOk at this ⊢
      split at this
      · exact this
      · obtain ⟨h1, h2, h3, h4, ⟨vs, h5, h6⟩, h7⟩ := this
        exact ⟨h1, h2, h3, h4, ⟨vs, same _ _ _ _ h5, h6⟩, h7⟩
      · exact this
    roomB := H.roomB
    roomN := H.roomN
    mp := by
      rw [hm]
      refine ⟨fun x hx => ?_, H.mp.un, H.mp.base, H.mp.nodup, fun _ h => (by cases h), List.nodup_nil⟩
      obtain ⟨arr, cl, h1, h2, h3⟩ := H.mp.at_ x hx
      refine ⟨arr, cl, ?_, h2, h3⟩
      rw [World.putObj_heap_other (fun e => by rw [e, hl] at h1; cases h1; exact hnm _ _ rfl)]
      exact h1 }

/-- Without objects. -/
def Ctx.bare (g : Ctx) : Ctx := { g with objs := [] }
theorem HoldsAt.bare {E : Env} {g : Ctx} {r : Rho} {a : Act} {w : World} (H : HoldsAt E g r a w) : HoldsAt E g.bare r a w :=
  { H with mp := ⟨H.mp.at_, H.mp.un, H.mp.base, H.mp.nodup, fun _ h => (by cases h), List.nodup_nil⟩ }

theorem leaves_marks {E : Env} {g : Ctx} {r : Rho} {a : Act} {fn : Func} {R : Ending → World → Prop} : ∀ (ds : List Deferred) (w : World), Marks E w ds → HoldsAt E g r a w → g.objs = [] →
    (∀ w', HoldsAt E g r a w' → ∃ v, (results fn a.tmps).run E.P w' = .ok v w' ∧ R (.returned v) w') → LeavesInM (fz none) 9 E.P fn a.tmps R ds .returning w
  | [], w, _, H, _, k => k w H
  | d :: ds, w, ⟨⟨b, hd, hb, hw, hne⟩, hm⟩, H, hm0, k => by
    refine ⟨by simp, .inl ⟨b, _, by rw [hd], run_takeDeferred hw, ?_⟩⟩
    refine leaves_marks ds _ ?_ (H.putObj hw rfl (fun _ _ e => by cases e) rfl hm0 hb.1) hm0 k
    have : ∀ l : List Deferred, (∀ d' ∈ l, d' ≠ d) → Marks E w l → Marks E (w.putObj b (.deferred none)) l := by
      intro l
      induction l with
      | nil => intro _ _; trivial
      | cons d' l ih =>
        intro hne ⟨⟨b', h1, h2, h3, h4⟩, h5⟩
        refine ⟨⟨b', h1, h2, ?_, h4⟩, ih (fun x hx => hne x (by simp [hx])) h5⟩
        rw [World.putObj_heap_other (fun e => hne d' (by simp) (by rw [h1, hd, e]))]
        exact h3
    exact this ds hne hm

/-- A function's body from its parameters and memory of its own. -/
theorem Calls_of_W {P : Program} {f : FuncId} {fn : Func} {c : Code} {args : List A} {R : Ending → World → Prop} (hf : P.funcs[f]? = some fn) (hb : fn.body = some c) (hn : Nat.ble args.length fn.ntmps = true)
    {r : Rho} {w : World} {vs : List Value} {X : Nat → Prop} {K : Addr → Prop} {m : Mem} {cps : List Rho} (hok : r.ok w) (ha : All2 r args vs) (hm : MemOk r w m) (hX : ∀ b, m.blk b → X b) (hK : ∀ x v, r x = some v → K x → X x.block ∧ Unf w x.block) (hc : ∀ c ∈ cps, c.le r)
    (h : W ⟨P, fn.ntmps, w, r, X, none, false, K⟩ c ⟨params 0 args, m.own, m.rooms, m.maps, [], cps⟩ (bodyPostM (fz none) 9 P fn R)) : Calls P f vs.toArray w R := by
  refine (callsIn_wide (n := 9)).1 (callsIn_of_wp_marks (F := fz none) hf hb trivial (h _ _ ⟨?_, trivial, r, ?_⟩))
  · have := Nat.le_of_ble_eq_true hn
    have := ha.length
    simp; omega
  · exact {
      le := Rho.leK_refl _ _
      cps := hc
      ok := hok
      fresh := fun x v e => by
        by_cases k : K x
        · exact .inr ⟨.inl (hK x v e k).1, (hK x v e k).2⟩
        · exact .inl ⟨⟨v, e⟩, k⟩
      size := Nat.le_refl _, block := fun _ _ _ => rfl, unf := fun _ _ h => h, os := rfl, tape := rfl, output := rfl
      slots := by
        intro s c x e
        obtain ⟨rfl, j, rfl, hj⟩ := look_params e
        obtain ⟨v, hv, hp⟩ := ha.get j x hj
        refine ⟨fun _ => ?_, fun h => by cases h⟩
        have e : (vs.toArray ++ Array.replicate (fn.ntmps - vs.toArray.size) undef).getD (0 + j) undef = v := by
          have hlt : j < vs.length := (List.getElem?_eq_some_iff.1 hv).1
          rw [Nat.zero_add, Array.getD_eq_getD_getElem?, Array.getElem?_append_left (by simpa using hlt)]
          simp [hv]
        show x.p r (Array.getD _ _ _)
        rw [e]; exact hp
      own := hm.own
      ownB := fun x hx => .inl (hX _ (.inl (List.mem_map.2 ⟨x, hx, rfl⟩)))
      nodup := hm.nodO
      room := hm.room
      roomB := fun x hx b hb => ⟨.inl (hX _ (.inr (.inl (List.mem_filterMap.2 ⟨x, hx, hb⟩)))), hm.roomD x hx b hb⟩
      roomN := hm.nodR
      mp := ⟨hm.maps, hm.mapu, fun x hx => .inl (hX _ (.inr (.inr (List.mem_map.2 ⟨x, hx, rfl⟩)))), hm.nodM, fun _ h => (by cases h), List.nodup_nil⟩ }

theorem MemOk.nil {r : Rho} {w : World} : MemOk r w {} := ⟨fun _ h => (by cases h), fun _ h => (by cases h), fun _ h => (by cases h), fun _ h => (by cases h), List.nodup_nil, fun _ h => (by cases h), List.nodup_nil, List.nodup_nil⟩
theorem Mem.blk_nil {b : Nat} (h : Mem.blk {} b) : False := by rcases h with h | h | h <;> cases h

abbrev EC (P : Program) (n : Nat) (w : World) (r : Rho) : Env := ⟨P, n, w, r, fun _ => False, none, false, fun _ => False⟩
abbrev EX (P : Program) (n : Nat) (w : World) (r : Rho) (X : Nat → Prop) : Env := ⟨P, n, w, r, X, none, false, fun _ => False⟩
abbrev EK (P : Program) (n : Nat) (w : World) (r : Rho) (K : Addr → Prop) : Env := ⟨P, n, w, r, fun b => ∃ a, K a ∧ a.block = b, none, false, K⟩

section
variable {P : Program} {f : FuncId} {fn : Func} {c : Code} {args : List A} {t : A}
theorem Fn_of_W (hf : P.funcs[f]? = some fn) (hb : fn.body = some c) (hn : Nat.ble args.length fn.ntmps = true)
    (h : ∀ r w, W (EC P fn.ntmps w r) c ⟨params 0 args, [], [], [], [], [r]⟩ (bodyPostM (fz none) 9 P fn (RetPost r w t))) : FnC P f args t := by
  intro r w vs hok ha
  exact Calls_of_W hf hb hn hok ha MemOk.nil (fun _ h => (Mem.blk_nil h).elim) (fun _ _ _ h => h.elim) (fun c hc => by rcases List.mem_singleton.1 hc with rfl; exact Rho.le_refl _) (h r w)
theorem FnN_of_W (hf : P.funcs[f]? = some fn) (hb : fn.body = some c) (hn : Nat.ble args.length fn.ntmps = true)
    (h : ∀ r w, W (EC P fn.ntmps w r) c ⟨params 0 args, [], [], [], [], [r]⟩ (bodyPostM (fz none) 9 P fn (RetPost r w (A.nw r t)))) : FnN P f args t := by
  intro r w vs hok ha
  exact Calls_of_W hf hb hn hok ha MemOk.nil (fun _ h => (Mem.blk_nil h).elim) (fun _ _ _ h => h.elim) (fun c hc => by rcases List.mem_singleton.1 hc with rfl; exact Rho.le_refl _) (h r w)
theorem FnX_of_W {T : Type} {m : Mem} {t : T → A} {m' : T → Mem} (hf : P.funcs[f]? = some fn) (hb : fn.body = some c) (hn : Nat.ble args.length fn.ntmps = true)
    (h : ∀ r w, W (EX P fn.ntmps w r m.blk) c ⟨params 0 args, m.own, m.rooms, m.maps, [], [r]⟩ (bodyPostM (fz none) 9 P fn (RetX m r w t m'))) : FnX P f m args t m' := by
  intro r w vs hok hm ha
  exact Calls_of_W hf hb hn hok ha hm (fun _ h => h) (fun _ _ _ h => h.elim) (fun c hc => by rcases List.mem_singleton.1 hc with rfl; exact Rho.le_refl _) (h r w)
theorem FnK_of_W (hf : P.funcs[f]? = some fn) (hb : fn.body = some c) (hn : Nat.ble args.length fn.ntmps = true)
    (h : ∀ c0 r w, W (EK P fn.ntmps w r (r.beyond c0)) c ⟨params 0 (args.map (A.nw c0)), [], [], [], [], [c0]⟩ (bodyPostM (fz none) 9 P fn (fun e w' => ∃ v s, e = .returned v ∧ GrowK (r.beyond c0) r w s w' ∧ ∀ s', t.p s' v))) : FnK P f args t := by
  intro c0 r w vs hok hc hu ha
  have ha' : All2 r (args.map (A.nw c0)) vs := by
    have : ∀ (l : List A) (us : List Value), All2 (r.minus c0) l us → All2 r (l.map (A.nw c0)) us := by
      intro l
      induction l with
      | nil => intro us h; cases us with
        | nil => trivial
        | cons _ _ => exact h.elim
      | cons t l ih => intro us h; cases us with
        | nil => exact h.elim
        | cons u us => exact ⟨⟨hc, h.1⟩, ih us h.2⟩
    exact this _ _ ha
  exact Calls_of_W hf hb (by simpa using hn) hok ha' MemOk.nil (fun _ h => (Mem.blk_nil h).elim) (fun x v e k => ⟨⟨x, k, rfl⟩, hu x k⟩) (fun c hc' => by rcases List.mem_singleton.1 hc' with rfl; exact hc) (h c0 r w)
theorem FnN.fnC (h : FnN P f args t) : FnC P f args t := fun r w vs hok ha => (h r w vs hok ha).mono fun _ _ ⟨v, s, h1, h2, _, h4⟩ => ⟨v, s, h1, h2, t.mono (Rho.minus_le _ _) h4⟩
/-- Known of any ghost heap. -/
def Pure (t : A) : Prop := ∀ r s v, t.p r v → t.p s v
theorem Pure.val {v : Value} : Pure (A.val v) := fun _ _ _ h => h
theorem FnC.fnN (hp : Pure t) (h : FnC P f args t) : FnN P f args t := fun r w vs hok ha => (h r w vs hok ha).mono fun _ _ ⟨v, s, h1, h2, h3⟩ => ⟨v, s, h1, h2, h2.le, hp _ _ _ h3⟩
end

/-- t says no more than u. -/
def Imp (u t : A) : Prop := ∀ r v, u.p r v → t.p r v
theorem Imp.refl {u : A} : Imp u u := fun _ _ h => h
theorem Imp.eq {u t : A} (h : u = t) : Imp u t := fun _ _ k => h ▸ k
theorem Imp.int {m n : Int} (h : m = n) : Imp (A.int m) (A.int n) := h ▸ Imp.refl
theorem Imp.bool {m n : Bool} (h : m = n) : Imp (A.bool m) (A.bool n) := h ▸ Imp.refl
theorem Imp.trans {u t s : A} (h : Imp u t) (k : Imp t s) : Imp u s := fun r v x => k r v (h r v x)
theorem Imp.at_ {c : Rho} {u : A} : Imp (A.at_ c u) u := fun _ _ h => u.mono h.1 h.2
theorem Imp.nw {c : Rho} {u : A} : Imp (A.nw c u) u := fun _ _ h => u.mono (Rho.minus_le _ _) h.2

theorem HoldsAt.toGrow {P : Program} {n : Nat} {w0 : World} {r0 : Rho} {g : Ctx} {r : Rho} {a : Act} {w : World} (H : HoldsAt (EC P n w0 r0) g r a w) : Grow r0 w0 r w :=
  ⟨H.le.le, H.ok, fun x v e => by
    have hle := H.le.le
    rcases H.fresh x v e with ⟨⟨v0, h0⟩, _⟩ | ⟨h1 | h1, h2⟩
    · have := hle _ _ h0; rw [this] at e; cases e; exact .inl h0
    · exact h1.elim
    · exact .inr ⟨h1, h2⟩, ⟨H.os, H.tape, H.output, H.size, fun k hk => H.block k hk (fun h => h)⟩⟩
theorem HoldsAt.toGrowX {P : Program} {n : Nat} {w0 : World} {r0 : Rho} {X : Nat → Prop} {g : Ctx} {r : Rho} {a : Act} {w : World} (H : HoldsAt (EX P n w0 r0 X) g r a w) : GrowX X r0 w0 r w :=
  ⟨H.le.le, H.ok, fun x v e => by
    have hle := H.le.le
    rcases H.fresh x v e with ⟨⟨v0, h0⟩, _⟩ | ⟨h1, h2⟩
    · have := hle _ _ h0; rw [this] at e; cases e; exact .inl h0
    · exact .inr ⟨h1, h2⟩, H.size, H.block, H.unf, H.os, H.tape, H.output⟩
theorem HoldsAt.toGrowK {P : Program} {n : Nat} {w0 : World} {r0 : Rho} {K : Addr → Prop} {g : Ctx} {r : Rho} {a : Act} {w : World} (H : HoldsAt (EK P n w0 r0 K) g r a w) : GrowK K r0 w0 r w :=
  ⟨H.le, H.ok, H.fresh, H.size, fun k hk hx => H.block k hk (fun ⟨a, h1, h2⟩ => hx a h1 h2), H.unf, H.os, H.tape, H.output⟩
theorem HoldsAt.memOk {E : Env} {g : Ctx} {r : Rho} {a : Act} {w : World} (H : HoldsAt E g r a w) : MemOk r w ⟨g.own, g.rooms, g.maps⟩ :=
  ⟨H.own, H.room, H.mp.at_, H.mp.un, H.nodup, fun x hx b hb => (H.roomB x hx b hb).2, H.roomN, H.mp.nodup⟩
theorem HoldsAt.blk {E : Env} {g : Ctx} {r : Rho} {a : Act} {w : World} (H : HoldsAt E g r a w) {b : Nat} (h : Mem.blk ⟨g.own, g.rooms, g.maps⟩ b) : E.base b := by
  rcases h with h | h | h
  · obtain ⟨x, hx, rfl⟩ := List.mem_map.1 h; exact H.ownB x hx
  · obtain ⟨x, hx, hb⟩ := List.mem_filterMap.1 h; exact (H.roomB x hx b hb).1
  · obtain ⟨x, hx, rfl⟩ := List.mem_map.1 h; exact H.mp.base x hx

/-- A result's value. -/
def evalRV (tmps : Array Value) : ResultVar → Sem Value
  | .tmp t => pure (tmps.getD t undef)
  | .cell a t => do loadVar t (← asAddr (tmps.getD a undef))
def RV (E : Env) (g : Ctx) (x : ResultVar) (t : A) : Prop := ∀ (r : Rho) (a : Act) (w : World), HoldsAt E g r a w → ∃ v, (evalRV a.tmps x).run E.P w = .ok v w ∧ t.p r v
section
variable {E : Env} {g : Ctx} {t u : A}
theorem RV.tmp {s : Nat} (hs : look g.sl s = some (true, u)) (h : Imp u t) : RV E g (.tmp s) t := fun r a w H => ⟨_, rfl, h _ _ ((H.slots s true u hs).1 rfl)⟩
theorem RV.cell (i : Nat) {s T b tb : Nat} {cells : List A} (hs : look g.sl s = some (true, A.val (.pointer (some ⟨b, 0, none⟩)))) (hT : TA E.P T) (hi : g.own[i]? = some (b, tb, cells)) (hc : cells[0]? = some u) (h : Imp u t) : RV E g (.cell s T) t := fun r a w H => by
  have hp : a.tmps.getD s undef = .pointer (some ⟨b, 0, none⟩) := (H.slots s true _ hs).1 rfl
  obtain ⟨_, vs, hb, hv⟩ := H.own _ (List.mem_of_getElem? hi)
  obtain ⟨v, hv1, hq⟩ := hv.get 0 u hc
  have hv2 : vs[0]? = some v := by simpa using hv1
  have hcell : w.cell? ⟨b, 0, none⟩ = some v := by simp [World.cell?, hb, hv2]
  refine ⟨v, ?_, h _ _ hq⟩
  have hp' : a.tmps[s]?.getD undef = .pointer (some ⟨b, 0, none⟩) := by simpa using hp
  simp [evalRV, hp', asAddr, loadVar, hT.isAgg, hcell]
theorem RV.cellg (i : Nat) {s T k b tb : Nat} {cells : List A} (hs : look g.sl s = some (true, A.val (.pointer (some ⟨b, 0, none⟩)))) (hT : TG E.P T k) (hi : g.own[i]? = some (b, tb, cells)) (hl : cells.length = k) (h : Imp (A.agg cells) t) : RV E g (.cell s T) t := fun r a w H => by
  have hp : a.tmps.getD s undef = .pointer (some ⟨b, 0, none⟩) := (H.slots s true _ hs).1 rfl
  obtain ⟨_, vs, hb, hv⟩ := H.own _ (List.mem_of_getElem? hi)
  have hlen := hv.length
  have hrun := run_loadCells_list (P := E.P) w ⟨b, 0, none⟩ vs.toList (fun j v hj => by
    rw [add_off, Nat.zero_add]
    have : vs[j]? = some v := by simpa using hj
    simp [World.cell?, hb, this])
  have e1 : vs.toList.length = k := by rw [← hlen, hl]
  rw [e1] at hrun
  refine ⟨.agg vs, ?_, h _ _ ⟨vs, rfl, hv⟩⟩
  have hp' : a.tmps[s]?.getD undef = .pointer (some ⟨b, 0, none⟩) := by simpa using hp
  simp [evalRV, hp', asAddr, loadVar, hT.isAgg, run_sizeOf hT.2, hrun]
end
theorem results_eq (fn : Func) (tmps : Array Value) : results fn tmps = (do let vs ← fn.results.mapM (evalRV tmps); pure (if h : vs.size = 1 then vs[0] else .tuple vs)) := rfl
/-- The results' values. -/
def ResOk (E : Env) (g : Ctx) (fn : Func) (t : A) : Prop := ∀ (r : Rho) (a : Act) (w : World), HoldsAt E g r a w → ∃ v, (results fn a.tmps).run E.P w = .ok v w ∧ t.p r v
section
variable {E : Env} {g : Ctx} {fn : Func} {x1 x2 x3 x4 : ResultVar} {t t1 t2 t3 t4 : A}
theorem Res0 (hr : fn.results = #[]) : ResOk E g fn A.any := fun r a w _ => ⟨.tuple #[], by simp [results_eq, hr], trivial⟩
theorem Res1 (hr : fn.results = #[x1]) (h1 : RV E g x1 t) : ResOk E g fn t := fun r a w H => by
  obtain ⟨v, e, h⟩ := h1 r a w H
  exact ⟨v, by simp [results_eq, hr, e], h⟩
theorem Res2 (hr : fn.results = #[x1, x2]) (h1 : RV E g x1 t1) (h2 : RV E g x2 t2) : ResOk E g fn (A.tup [t1, t2]) := fun r a w H => by
  obtain ⟨v1, e1, k1⟩ := h1 r a w H
  obtain ⟨v2, e2, k2⟩ := h2 r a w H
  exact ⟨.tuple #[v1, v2], by simp [results_eq, hr, e1, e2], _, rfl, k1, k2, trivial⟩
theorem Res3 (hr : fn.results = #[x1, x2, x3]) (h1 : RV E g x1 t1) (h2 : RV E g x2 t2) (h3 : RV E g x3 t3) : ResOk E g fn (A.tup [t1, t2, t3]) := fun r a w H => by
  obtain ⟨v1, e1, k1⟩ := h1 r a w H
  obtain ⟨v2, e2, k2⟩ := h2 r a w H
  obtain ⟨v3, e3, k3⟩ := h3 r a w H
  exact ⟨.tuple #[v1, v2, v3], by simp [results_eq, hr, e1, e2, e3], _, rfl, k1, k2, k3, trivial⟩
theorem Res4 (hr : fn.results = #[x1, x2, x3, x4]) (h1 : RV E g x1 t1) (h2 : RV E g x2 t2) (h3 : RV E g x3 t3) (h4 : RV E g x4 t4) : ResOk E g fn (A.tup [t1, t2, t3, t4]) := fun r a w H => by
  obtain ⟨v1, e1, k1⟩ := h1 r a w H
  obtain ⟨v2, e2, k2⟩ := h2 r a w H
  obtain ⟨v3, e3, k3⟩ := h3 r a w H
  obtain ⟨v4, e4, k4⟩ := h4 r a w H
  exact ⟨.tuple #[v1, v2, v3, v4], by simp [results_eq, hr, e1, e2, e3, e4], _, rfl, k1, k2, k3, k4, trivial⟩
end
def isRet : Exit → Bool
  | .ret | .normal => true
  | _ => false
theorem Ret {E : Env} {g : Ctx} {fn : Func} {t : A} {R : Ending → World → Prop} {e : Exit} (he : isRet e = true) (hv : ResOk E g.bare fn t)
    (hR : ∀ r a w v, HoldsAt E g.bare r a w → t.p r v → R (.returned v) w) : Fin E g e (bodyPostM (fz none) 9 E.P fn R) := by
  intro a w ⟨_, h2, r, H⟩
  have : LeavesInM (fz none) 9 E.P fn a.tmps R a.defers .returning w := leaves_marks a.defers w h2 H.bare rfl fun w' H' => by
    obtain ⟨v, e, k⟩ := hv r a w' H'
    exact ⟨v, e, hR r a w' v H' k⟩
  cases e <;> first | exact this | cases he
section
variable {P : Program} {n : Nat} {w0 : World} {r0 : Rho} {g : Ctx} {fn : Func} {t u : A} {e : Exit}
theorem RetC (he : isRet e = true) (hv : ResOk (EC P n w0 r0) g.bare fn t) : Fin (EC P n w0 r0) g e (bodyPostM (fz none) 9 P fn (RetPost r0 w0 t)) :=
  Ret (E := EC P n w0 r0) he hv fun r _ _ v H k => ⟨v, r, rfl, H.toGrow, k⟩
theorem RetX_ {T : Type} {m : Mem} {t : T → A} {m' : T → Mem} (x : T) (he : isRet e = true) (hv : ResOk (EX P n w0 r0 m.blk) g.bare fn (t x)) (hm : ∀ r a w, HoldsAt (EX P n w0 r0 m.blk) g.bare r a w → MemOk r w (m' x))
    (hb : ∀ b, (m' x).blk b → Mem.blk ⟨g.own, g.rooms, g.maps⟩ b) : Fin (EX P n w0 r0 m.blk) g e (bodyPostM (fz none) 9 P fn (RetX m r0 w0 t m')) :=
  Ret (E := EX P n w0 r0 m.blk) he hv fun r a w v H k => ⟨v, r, x, rfl, H.toGrowX, k, hm r a w H, fun b h => H.blk (hb b h)⟩
theorem RetK {K : Addr → Prop} (he : isRet e = true) (hv : ResOk (EK P n w0 r0 K) g.bare fn t) (hp : Pure t) : Fin (EK P n w0 r0 K) g e (bodyPostM (fz none) 9 P fn (fun e w' => ∃ v s, e = .returned v ∧ GrowK K r0 w0 s w' ∧ ∀ s', t.p s' v)) :=
  Ret (E := EK P n w0 r0 K) he hv fun r _ _ v H k => ⟨v, r, rfl, H.toGrowK, fun s' => hp _ _ _ k⟩
end

/-- A new block in the ghost heap. -/
theorem Grow.alloc {r : Rho} {w : World} (hok : r.ok w) (cs : Array Value) (ty : TypeId) : ∃ s, Grow r w s (w.alloc (.cells cs ty)) ∧ ∀ (i : Nat) v, cs[i]? = some v → s ⟨w.heap.size, i, none⟩ = some v := by
  refine ⟨fun a => if a.block = w.heap.size ∧ a.spot = none then cs[a.off]? else r a, ⟨?_, ?_, ?_, ?_⟩, ?_⟩
  · intro a v e
    have := Rho.ok_lt hok e
    show (if _ then _ else _) = _
    rw [if_neg (by omega)]; exact e
  · intro a v e
    replace e : (if a.block = w.heap.size ∧ a.spot = none then cs[a.off]? else r a) = some v := e
    by_cases h : a.block = w.heap.size ∧ a.spot = none
    · simp only [h, and_self, if_true] at e
      obtain ⟨b, o, s⟩ := a
      simp at h
      obtain ⟨rfl, rfl⟩ := h
      rw [World.alloc_heap_new]; exact e
    · rw [if_neg h] at e
      rw [Below.heap_alloc _ _ _ (Rho.ok_lt hok e)]; exact hok _ _ e
  · intro a v e
    replace e : (if a.block = w.heap.size ∧ a.spot = none then cs[a.off]? else r a) = some v := e
    by_cases h : a.block = w.heap.size ∧ a.spot = none
    · refine .inr ⟨by omega, fun cs' ty' fr e' => ?_⟩
      rw [h.1, World.alloc_heap_new] at e'
      cases e'; rfl
    · rw [if_neg h] at e; exact .inl e
  · exact (Below.refl _ _).alloc (Nat.le_refl _) _
  · intro i v e
    simp [e]

theorem run_newVar {P : Program} {w : World} {t : TypeId} {v : Value} : (newVar t v).run P w = .ok ⟨w.heap.size, 0, none⟩ (w.alloc (.cells v.cells t)) := by
  simp [newVar, newRow]

/-- Not a value of several cells. -/
def OneCell (t : A) : Prop := ∀ r v, t.p r v → v.cells = #[v]
theorem OneCell.int {n : Int} : OneCell (A.int n) := fun _ _ h => by cases h; rfl
theorem OneCell.bool {n : Bool} : OneCell (A.bool n) := fun _ _ h => by cases h; rfl
theorem OneCell.sl {T : Type} {k : Nat} {f : T → List A} {L : List T} : OneCell (A.sl k f L) := fun _ _ ⟨_, _, _, h, _⟩ => by rw [h]; rfl
theorem OneCell.pt {l : List A} : OneCell (A.pt l) := fun _ _ ⟨_, _, h, _⟩ => by rw [h]; rfl

section
variable {P : Program} {own : OC} {ty T : TypeId} {x : Operand}
theorem box_good {r : Rho} {w : World} (hok : r.ok w) {cells : List A} {v : Value} (h : All2 r cells v.cells.toList) : Good P r w (A.pt cells) (((Instr.box T v).run P w).andThen fun v w => .ok (.value v) w) := by
  simp only [Instr.box, Sem.run_bind, run_newVar, Result.andThen_ok, Sem.run_pure]
  obtain ⟨s, g, hs⟩ := Grow.alloc hok v.cells T
  refine ⟨s, g, w.heap.size, 0, rfl, fun i c hi => ?_⟩
  obtain ⟨u, hu, hp⟩ := h.get i c hi
  exact ⟨u, by rw [Nat.zero_add]; exact hs i u (by simpa using hu), c.mono g.le hp⟩
theorem O_boxg {cells : List A} : OpN P own [(true, x, A.agg cells)] (.box T x) ty (A.pt cells) := fun r w a hok _ hn => by
  obtain ⟨vs, hx, hc⟩ := hn (true, x, A.agg cells) (by simp) rfl
  have hx : a.eval x = .agg vs := hx
  simp only [exec, execOp, hx, Sem.run_bind, Sem.run_pure]
  exact box_good hok hc
theorem O_box1 {t : A} (h1 : OneCell t) : OpN P own [(true, x, t)] (.box T x) ty (A.pt [t]) := fun r w a hok _ hn => by
  have hx : t.p r (a.eval x) := hn (true, x, t) (by simp) rfl
  simp only [exec, execOp, Sem.run_bind, Sem.run_pure]
  refine box_good hok ?_
  rw [h1 _ _ hx]
  exact ⟨hx, trivial⟩
end
end Go.L
