import Derived.Test.YtfjggobjijeniaaBase
/-! Single operations, sequences of operations, regions that draw their order. -/
namespace Go.L
open Go Go.RowKit

/-- needs: (under which condition, operand, assertion) -/
abbrev Need := List (Bool × Operand × A)

def Read1 (av : List (Nat × Bool × A)) (c : Bool) (x : Bool × Operand × A) : Prop :=
  match x.2.1 with
  | .tmp s => ∃ cs, look av s = some (cs, x.2.2) ∧ (c = true → x.1 = true → cs = true)
  | y => ∀ (r : Rho) (a : Act), x.2.2.p r (a.eval y)
def Reads (av : List (Nat × Bool × A)) (c : Bool) : Need → Prop
  | [] => True
  | x :: l => Read1 av c x ∧ Reads av c l

def exec (a : Act) (op : Op) (ty : TypeId) : Sem Next := execOp a.eval ⟨none, op, ty, "", #[], none⟩
theorem exec_eq (a : Act) (o : Oper) : execOp a.eval o = exec a o.op o.type := rfl

def slotIn (x : Operand) (l : List Operand) : Bool :=
  match x with
  | .tmp s => l.any fun | .tmp u => u == s | _ => false
  | _ => true

/-- What stays while operations only read. -/
structure OC where
  own : Own
  cps : List Rho
abbrev Ctx.oc (g : Ctx) : OC := ⟨g.own, g.cps⟩
structure OcOk (r : Rho) (w : World) (o : OC) : Prop where
  own : OwnOk r w o.own
  cps : ∀ c ∈ o.cps, c.le r
/-- One operation that only reads, computes, makes new read-only memory or calls such a function. -/
def OpN (P : Program) (own : OC) (need : Need) (op : Op) (ty : TypeId) (t : A) : Prop :=
  ∀ (r : Rho) (w : World) (a : Act), r.ok w → OcOk r w own → (∀ x ∈ need, x.1 = true → x.2.2.p r (a.eval x.2.1)) → Good P r w t ((exec a op ty).run P w)

theorem Reads.get {av : List (Nat × Bool × A)} {c : Bool} : ∀ {l : Need}, Reads av c l → ∀ x ∈ l, Read1 av c x
  | _ :: _, h, x, hx => by
    rcases List.mem_cons.1 hx with rfl | hx
    · exact h.1
    · exact Reads.get h.2 x hx

/-- The slots' facts as a proposition of the slots' values. -/
def Slots (r : Rho) (a : Act) (av : List (Nat × Bool × A)) : Prop := ∀ s c x, look av s = some (c, x) → (c = true → x.p r (a.tmps.getD s undef)) ∧ (c = false → a.tmps.getD s undef = undef)

theorem Reads.use {av : List (Nat × Bool × A)} {c : Bool} {l : Need} (h : Reads av c l) (hc : c = true) {r : Rho} {a : Act} (hs : Slots r a av) :
    ∀ x ∈ l, x.1 = true → x.2.2.p r (a.eval x.2.1) := by
  intro x hx h1
  have h2 := h.get x hx
  unfold Read1 at h2
  obtain ⟨cnd, y, t⟩ := x
  cases y with
  | tmp s => obtain ⟨cs, e, k⟩ := h2; exact (hs s cs t e).1 (k hc h1)
  | const v => exact h2 r a
  | global g => exact h2 r a
  | func f => exact h2 r a

theorem getD_put_same {a : Act} {d : Nat} {v : Value} (h : d < a.tmps.size) : (a.put (some d) v).tmps.getD d undef = v := by
  simp [Act.put, h]
theorem getD_put_ne {a : Act} {d s : Nat} {v : Value} (h : d ≠ s) : (a.put (some d) v).tmps.getD s undef = a.tmps.getD s undef := by
  simp [Act.put, Array.getElem?_setIfInBounds_ne h]
theorem size_put {a : Act} {d : Option Nat} {v : Value} : (a.put d v).tmps.size = a.tmps.size := by
  cases d <;> simp [Act.put]
theorem defers_put {a : Act} {d : Option Nat} {v : Value} : (a.put d v).defers = a.defers := by cases d <;> rfl

theorem RoomOk.grow {r s : Rho} {w w' : World} {x : Value × Nat × Nat} (h : RoomOk r w x) (g : Grow r w s w') : RoomOk s w' x := by
  unfold RoomOk at *
  split at h
  · exact h
  · obtain ⟨h1, h2, h3, h4, ⟨vs, e, hv⟩, k⟩ := h
    have hlt := (Array.getElem?_eq_some_iff.1 e).1
    refine ⟨h1, h2, h3, h4, ⟨vs, by rw [g.below.block _ hlt]; exact e, hv⟩, fun o sp ho => ?_⟩
    cases hs : s _ with
    | none => rfl
    | some v =>
      rcases g.fresh _ _ hs with q | q
      · rw [k _ _ ho] at q; cases q
      · exact absurd q.1 (by simp; omega)
  · exact h

/-- The world goes on by a growth: all but the slots stays. -/
theorem HoldsAt.grow {E : Env} {g : Ctx} {r s : Rho} {a a' : Act} {w w' : World} (H : HoldsAt E g r a w) (h : Grow r w s w') (hs : Slots s a' g.sl) : HoldsAt E g s a' w' where
  le := H.le.trans_le h.le
  cps := fun c hc => Rho.le_trans (H.cps c hc) h.le
  ok := h.ok
  fresh := fun x v e => (h.fresh x v e).elim (fun e1 => (H.fresh x v e1).elim .inl fun q => .inr ⟨q.1, q.2.same (h.below.block _ (Rho.ok_lt H.ok e1))⟩) fun q => .inr ⟨.inr (Nat.le_trans H.size q.1), q.2⟩
  size := Nat.le_trans H.size h.below.size
  block := fun k hk hx => (h.below.block k (Nat.lt_of_lt_of_le hk H.size)).trans (H.block k hk hx)
  unf := fun b hb hu => (H.unf b hb hu).same (h.below.block b (Nat.lt_of_lt_of_le hb H.size))
  os := h.below.os.trans H.os
  tape := h.below.tape.trans H.tape
  output := h.below.output.trans H.output
  slots := hs
  own := H.own.grow h
  ownB := H.ownB
  nodup := H.nodup
  room := fun x hx => (H.room x hx).grow h
  roomB := H.roomB
  roomN := H.roomN
  mp := H.mp.grow h

theorem Slots.mono {r s : Rho} {a : Act} {av : List (Nat × Bool × A)} (h : Slots r a av) (k : r.le s) : Slots s a av := fun t c x e => ⟨fun hc => x.mono k ((h t c x e).1 hc), (h t c x e).2⟩

theorem Slots.put {r : Rho} {a : Act} {av : List (Nat × Bool × A)} (h : Slots r a av) {d : Nat} {v : Value} (hd : d < a.tmps.size) {c : Bool} {t : A} (hv : c = true → t.p r v) (hu : c = false → v = undef) :
    Slots r (a.put (some d) v) ((d, c, t) :: av) := by
  intro s c' x e
  unfold look at e
  by_cases hds : d = s
  · subst hds
    simp at e
    obtain ⟨rfl, rfl⟩ := e
    rw [getD_put_same hd]; exact ⟨hv, hu⟩
  · rw [if_neg (by simpa using hds)] at e
    rw [getD_put_ne hds]
    exact h s c' x e

/-- A step of one operation: it comes to a value that meets t, in a grown world. -/
theorem upon_good {P : Program} {o : Oper} {a : Act} {r : Rho} {w : World} {t : A} {K : Act → World → Prop} {Q : Exit → Act → World → Prop} {res : Result Next} {ro : Option Nat} (h : Good P r w t res)
    (k : ∀ v s w', Grow r w s w' → t.p s v → K (a.put o.dst v) w') : o.uponIn (fz ro) 9 P a K Q res := by
  cases res with
  | halt x w1 => exact h.elim
  | ok n w1 =>
    cases n with
    | value v =>
      obtain ⟨s, g, ht⟩ := h
      rw [Oper.uponIn_value]
      exact k v s w1 g ht
    | enter f args =>
      obtain ⟨e, h⟩ := h
      subst e
      rw [Oper.uponIn_enter]
      refine ⟨fun h => (by cases h), CallsIn.mono (calls_fz h) ?_⟩
      rintro e w'' ⟨v, s, rfl, g, ht⟩
      exact k v s w'' g ht
    | _ => exact h.elim

theorem good_no_defer {P : Program} {r : Rho} {w : World} {t : A} {a : Act} {op : Op} {ty : TypeId} (h : Good P r w t ((exec a op ty).run P w)) : ∀ c, op ≠ .defer c := by
  rintro c rfl
  simp only [exec, execOp, Sem.run_bind] at h
  generalize (resolve a.eval c ty).run P w = res at h
  cases res with
  | ok d w' => simp [Good] at h
  | halt x w' => exact h.elim

theorem wp_good {P : Program} {o : Oper} {a : Act} {r : Rho} {w : World} {t : A} {K : Act → World → Prop} {Q : Exit → Act → World → Prop} {ro : Option Nat} (h : Good P r w t ((exec a o.op o.type).run P w))
    (k : ∀ v s w', Grow r w s w' → t.p s v → K (a.put o.dst v) w') : o.wpIn (fz ro) 9 P a w K Q := by
  refine ⟨fun _ _ => trivial, ?_⟩
  rw [Oper.semAt_eq _ _ _ (good_no_defer h), exec_eq]
  exact upon_good h k

/-- The guard's slot and whether the operation is wanted. -/
theorem wanted_of {ops : Array Oper} {o : Oper} {j gs : Nat} {want : Bool} (ho : o.guard = some (j, want)) (hj : (ops[j]?).bind (·.dst) = some gs) {a : Act} {b : Bool} (hlt : gs < a.tmps.size)
    (hv : a.tmps.getD gs undef = .bool b) : Region.wanted o (yielded ops a.tmps) = (b == want) := by
  unfold Region.wanted
  simp only [ho, yielded, hj]
  have e : a.tmps[gs]? = some (.bool b) := by
    rw [← hv]; simp [hlt]
  simp [e]
theorem wanted_not {ops : Array Oper} {o : Oper} {j gs : Nat} {want : Bool} (ho : o.guard = some (j, want)) (hj : (ops[j]?).bind (·.dst) = some gs) {a : Act} (hlt : gs < a.tmps.size)
    (hv : a.tmps.getD gs undef = undef) : Region.wanted o (yielded ops a.tmps) = false := by
  unfold Region.wanted
  simp only [ho, yielded, hj]
  have e : a.tmps[gs]? = some undef := by
    rw [← hv]; simp [hlt]
  simp [e, undef]

def GuardOk (E : Env) (ops : Array Oper) (av : List (Nat × Bool × A)) (gd : Option (Nat × Bool)) (c : Bool) : Prop :=
  match gd with
  | none => c = true
  | some (j, want) => ∃ gs cg b, (ops[j]?).bind (·.dst) = some gs ∧ Nat.ble (gs + 1) E.n = true ∧ look av gs = some (cg, A.bool b) ∧ c = (cg && (b == want))

/-- One operation, guarded or not: what it gives to its slot. -/
def Step1 (E : Env) (ops : Array Oper) (own : OC) (av : List (Nat × Bool × A)) (o : Oper) (f : Nat × Bool × A) : Prop :=
  o.dst = some f.1 ∧ Nat.ble (f.1 + 1) E.n = true ∧ GuardOk E ops av o.guard f.2.1 ∧
  ∃ need : Need, (f.2.1 = true → OpN E.P own need o.op o.type f.2.2) ∧ Reads av f.2.1 need ∧ (need.all fun x => slotIn x.2.1 o.op.operands.toList) = true

theorem mem_looks {ops : Array Oper} {o : Oper} {s : Nat} (h : slotIn (.tmp s) o.op.operands.toList = true) : s ∈ o.looksAt ops := by
  unfold slotIn at h
  simp only [List.any_eq_true] at h
  obtain ⟨x, hx, k⟩ := h
  unfold Oper.looksAt
  refine List.mem_append_left _ (List.mem_filterMap.2 ⟨x, hx, ?_⟩)
  cases x with
  | tmp u => simp at k; simp [k]
  | _ => simp at k

theorem step_sem {E : Env} {ops : Array Oper} {own : OC} {av : List (Nat × Bool × A)} {o : Oper} {f : Nat × Bool × A} (hS : Step1 E ops own av o f) {r : Rho} {w : World} {a : Act}
    {Q : Exit → Act → World → Prop} (hok : r.ok w) (hown : OcOk r w own) (hsize : a.tmps.size = E.n)
    (hsl : ∀ s ∈ o.looksAt ops, ∀ c x, look av s = some (c, x) → (c = true → x.p r (a.tmps.getD s undef)) ∧ (c = false → a.tmps.getD s undef = undef)) {K : Act → World → Prop}
    (k : ∀ v s w', Grow r w s w' → (f.2.1 = true → f.2.2.p s v) → (f.2.1 = false → v = undef) → K (a.put (some f.1) v) w') :
    if Region.wanted o (yielded ops a.tmps) then o.wpIn (fz E.rnd) 9 E.P a w K Q else (∀ f, o.about E.P w a.eval = some f → (fz E.rnd).fn f) ∧ K (a.put o.dst undef) w := by
  obtain ⟨hd, hn, hg, need, hop, hr, hs⟩ := hS
  have hw : Region.wanted o (yielded ops a.tmps) = f.2.1 := by
    unfold GuardOk at hg
    split at hg
    · rename_i hgd; simp [Region.wanted, hgd, hg]
    · rename_i j want hgd
      obtain ⟨gs, cg, b, hj, hlt, hl, hc⟩ := hg
      have hmem : gs ∈ o.looksAt ops := by unfold Oper.looksAt; simp [hgd, hj]
      have hlt' : gs < a.tmps.size := by rw [hsize]; exact Nat.le_of_ble_eq_true hlt
      obtain ⟨h1, h2⟩ := hsl gs hmem cg _ hl
      cases cg with
      | true => rw [wanted_of hgd hj hlt' (h1 rfl), hc]; rfl
      | false => rw [wanted_not hgd hj hlt' (h2 rfl), hc]; rfl
  rw [hw]
  cases hc : f.2.1 with
  | false =>
    rw [if_neg (by simp), hd]
    refine ⟨fun _ _ => trivial, ?_⟩
    exact k undef r w (Grow.refl hok) (fun e => by rw [hc] at e; cases e) fun _ => rfl
  | true =>
    rw [if_pos rfl]
    have hneed : ∀ x ∈ need, x.1 = true → x.2.2.p r (a.eval x.2.1) := by
      intro x hx h1
      have h2 := hr.get x hx
      have h3 := List.all_eq_true.1 hs x hx
      unfold Read1 at h2
      obtain ⟨cnd, y, t⟩ := x
      cases y with
      | tmp s => obtain ⟨cs, e, kk⟩ := h2; exact (hsl s (mem_looks h3) cs t e).1 (kk hc h1)
      | const v => exact h2 r a
      | global g => exact h2 r a
      | func f => exact h2 r a
    have hgood := hop hc r w a hok hown hneed
    refine wp_good hgood fun v s w' gr ht => ?_
    rw [hd]
    exact k v s w' gr (fun _ => ht) (fun e => by rw [hc] at e; cases e)

section
variable {E : Env} {g : Ctx} {Q : Exit → Act → World → Prop} {ops : Array Oper} {rest : List Oper}

theorem Marks.grow {g : Ctx} {r s : Rho} {a : Act} {w w' : World} (_H : HoldsAt E g r a w) (gr : Grow r w s w') : ∀ {l : List Deferred}, Marks E w l → Marks E w' l
  | [], _ => trivial
  | _ :: _, ⟨⟨b, h1, h2, h3, h4⟩, k⟩ => ⟨⟨b, h1, h2, (gr.below.block b (Array.getElem?_eq_some_iff.1 h3).1).trans h3, h4⟩, Marks.grow _H gr k⟩
theorem Holds.step {d : Nat} {c : Bool} {t : A} {a : Act} {r s : Rho} {w w' : World} {v : Value} (h1 : a.tmps.size = E.n) (h2 : Marks E w a.defers) (H : HoldsAt E g r a w) (gr : Grow r w s w')
    (hd : Nat.ble (d + 1) E.n = true) (hv : c = true → t.p s v) (hu : c = false → v = undef) : Holds E (g.setc d c t) (a.put (some d) v) w' := by
  refine ⟨by rw [size_put]; exact h1, by rw [defers_put]; exact h2.grow H gr, s, ?_⟩
  have hlt : d < a.tmps.size := by rw [h1]; exact Nat.le_of_ble_eq_true hd
  have := H.grow gr (a' := a) (Slots.mono H.slots gr.le)
  exact { this with slots := Slots.put (Slots.mono H.slots gr.le) hlt hv hu }

theorem HoldsAt.oc {g : Ctx} {r : Rho} {a : Act} {w : World} (H : HoldsAt E g r a w) : OcOk r w g.oc := ⟨H.own, H.cps⟩
theorem WL_step {o : Oper} {d : Nat} {c : Bool} {t : A} (hS : Step1 E ops g.oc g.sl o (d, c, t)) (h : WL E ops rest { g with sl := (d, c, t) :: g.sl } Q) : WL E ops (o :: rest) g Q := by
  intro a w k
  obtain ⟨h1, h2, r, H⟩ := k
  refine wpListIn_step fun K hK => ?_
  exact step_sem hS H.ok H.oc h1 (fun s _ c x e => H.slots s c x e) fun v s w' gr hv hu => hK _ _ (h _ _ (Holds.step h1 h2 H gr hS.2.1 hv hu))

theorem band {b c : Bool} (h : b = true) (k : c = true) : (b && c) = true := by rw [h, k]; rfl
theorem bandl {b c : Bool} (h : (b && c) = true) : b = true := by cases b <;> simp_all
theorem bandr {b c : Bool} (h : (b && c) = true) : c = true := by cases b <;> simp_all
theorem Reads.any {av : List (Nat × Bool × A)} {c : Bool} {need : Need} (h : Reads av c need) : Reads av c need := h

section
variable {d : Nat} {op : Op} {ty : TypeId} {pos : String} {aft : Array Edge} {need : Need} {t : A} {j gs : Nat} {cg b : Bool} {av : List (Nat × Bool × A)} {own : OC}
theorem S_plain (hu : OpN E.P own need op ty t) (hr : Reads av true need) (hs : (need.all fun x => slotIn x.2.1 op.operands.toList) = true) (hd : Nat.ble (d + 1) E.n = true) :
    Step1 E ops own av ⟨some d, op, ty, pos, aft, none⟩ (d, true, t) := ⟨rfl, hd, rfl, need, fun _ => hu, hr, hs⟩
theorem S_t1 (hj : (ops[j]?).bind (·.dst) = some gs) (hl : look av gs = some (true, A.bool b)) (hu : b = true → OpN E.P own need op ty t) (hr : Reads av b need)
    (hs : (need.all fun x => slotIn x.2.1 op.operands.toList) = true) (hd : Nat.ble (d + 1) E.n = true) (hgs : Nat.ble (gs + 1) E.n = true) :
    Step1 E ops own av ⟨some d, op, ty, pos, aft, some (j, true)⟩ (d, b, t) := ⟨rfl, hd, ⟨gs, true, b, hj, hgs, hl, by cases b <;> rfl⟩, need, hu, hr, hs⟩
theorem S_f1 (hj : (ops[j]?).bind (·.dst) = some gs) (hl : look av gs = some (true, A.bool b)) (hu : (!b) = true → OpN E.P own need op ty t) (hr : Reads av (!b) need)
    (hs : (need.all fun x => slotIn x.2.1 op.operands.toList) = true) (hd : Nat.ble (d + 1) E.n = true) (hgs : Nat.ble (gs + 1) E.n = true) :
    Step1 E ops own av ⟨some d, op, ty, pos, aft, some (j, false)⟩ (d, !b, t) := ⟨rfl, hd, ⟨gs, true, b, hj, hgs, hl, by cases b <;> rfl⟩, need, hu, hr, hs⟩
theorem S_t (hj : (ops[j]?).bind (·.dst) = some gs) (hl : look av gs = some (cg, A.bool b)) (hu : (cg && b) = true → OpN E.P own need op ty t) (hr : Reads av (cg && b) need)
    (hs : (need.all fun x => slotIn x.2.1 op.operands.toList) = true) (hd : Nat.ble (d + 1) E.n = true) (hgs : Nat.ble (gs + 1) E.n = true) :
    Step1 E ops own av ⟨some d, op, ty, pos, aft, some (j, true)⟩ (d, (cg && b), t) := ⟨rfl, hd, ⟨gs, cg, b, hj, hgs, hl, by cases b <;> cases cg <;> rfl⟩, need, hu, hr, hs⟩
theorem S_f (hj : (ops[j]?).bind (·.dst) = some gs) (hl : look av gs = some (cg, A.bool b)) (hu : (cg && !b) = true → OpN E.P own need op ty t) (hr : Reads av (cg && !b) need)
    (hs : (need.all fun x => slotIn x.2.1 op.operands.toList) = true) (hd : Nat.ble (d + 1) E.n = true) (hgs : Nat.ble (gs + 1) E.n = true) :
    Step1 E ops own av ⟨some d, op, ty, pos, aft, some (j, false)⟩ (d, (cg && !b), t) := ⟨rfl, hd, ⟨gs, cg, b, hj, hgs, hl, by cases b <;> cases cg <;> rfl⟩, need, hu, hr, hs⟩
end
end
end Go.L
