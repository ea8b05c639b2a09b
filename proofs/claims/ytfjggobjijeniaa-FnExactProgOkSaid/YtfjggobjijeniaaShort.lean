import Derived.Test.YtfjggobjijeniaaCal3
/-! Short names of single steps. -/
namespace Go.L
open Go Go.RowKit
theorem tg {av : List (Nat × Bool × A)} {c b cs : Bool} {s : Nat} {x : A} (h : look av s = some (cs, x))
    (hc : c = true → b = true → cs = true := by first | exact fun _ _ => rfl | exact fun h _ => h | exact fun _ h => h | exact fun h k => band h k | exact fun h _ => bandl h | exact fun h _ => bandr h) : Read1 av c (b, .tmp s, x) := ⟨cs, h, hc⟩
section
variable {E : Env} {g : Ctx} {Q : Exit → Act → World → Prop} {ops : Array Oper} {rest : List Oper} {d : Nat} {op : Op} {ty : TypeId} {pos : String} {aft : Array Edge} {need : Need} {t : A} {j gs : Nat} {cg b : Bool}
theorem ws (hu : OpN E.P g.oc need op ty t) (hr : Reads g.sl true need) (h : WL E ops rest { g with sl := (d, true, t) :: g.sl } Q)
    (hs : (need.all fun x => slotIn x.2.1 op.operands.toList) = true := by exact rfl) (hd : Nat.ble (d + 1) E.n = true := by exact rfl) : WL E ops (⟨some d, op, ty, pos, aft, none⟩ :: rest) g Q := WL_step (S_plain hu hr hs hd) h
theorem wt1 (hj : (ops[j]?).bind (·.dst) = some gs) (hl : look g.sl gs = some (true, A.bool b)) (hu : b = true → OpN E.P g.oc need op ty t) (hr : Reads g.sl b need) (h : WL E ops rest { g with sl := (d, b, t) :: g.sl } Q)
    (hs : (need.all fun x => slotIn x.2.1 op.operands.toList) = true := by exact rfl) (hd : Nat.ble (d + 1) E.n = true := by exact rfl) (hgs : Nat.ble (gs + 1) E.n = true := by exact rfl) :
    WL E ops (⟨some d, op, ty, pos, aft, some (j, true)⟩ :: rest) g Q := WL_step (S_t1 hj hl hu hr hs hd hgs) h
theorem wf1 (hj : (ops[j]?).bind (·.dst) = some gs) (hl : look g.sl gs = some (true, A.bool b)) (hu : (!b) = true → OpN E.P g.oc need op ty t) (hr : Reads g.sl (!b) need) (h : WL E ops rest { g with sl := (d, !b, t) :: g.sl } Q)
    (hs : (need.all fun x => slotIn x.2.1 op.operands.toList) = true := by exact rfl) (hd : Nat.ble (d + 1) E.n = true := by exact rfl) (hgs : Nat.ble (gs + 1) E.n = true := by exact rfl) :
    WL E ops (⟨some d, op, ty, pos, aft, some (j, false)⟩ :: rest) g Q := WL_step (S_f1 hj hl hu hr hs hd hgs) h
theorem wt (hj : (ops[j]?).bind (·.dst) = some gs) (hl : look g.sl gs = some (cg, A.bool b)) (hu : (cg && b) = true → OpN E.P g.oc need op ty t) (hr : Reads g.sl (cg && b) need) (h : WL E ops rest { g with sl := (d, (cg && b), t) :: g.sl } Q)
    (hs : (need.all fun x => slotIn x.2.1 op.operands.toList) = true := by exact rfl) (hd : Nat.ble (d + 1) E.n = true := by exact rfl) (hgs : Nat.ble (gs + 1) E.n = true := by exact rfl) :
    WL E ops (⟨some d, op, ty, pos, aft, some (j, true)⟩ :: rest) g Q := WL_step (S_t hj hl hu hr hs hd hgs) h
theorem wf (hj : (ops[j]?).bind (·.dst) = some gs) (hl : look g.sl gs = some (cg, A.bool b)) (hu : (cg && !b) = true → OpN E.P g.oc need op ty t) (hr : Reads g.sl (cg && !b) need) (h : WL E ops rest { g with sl := (d, (cg && !b), t) :: g.sl } Q)
    (hs : (need.all fun x => slotIn x.2.1 op.operands.toList) = true := by exact rfl) (hd : Nat.ble (d + 1) E.n = true := by exact rfl) (hgs : Nat.ble (gs + 1) E.n = true := by exact rfl) :
    WL E ops (⟨some d, op, ty, pos, aft, some (j, false)⟩ :: rest) g Q := WL_step (S_f hj hl hu hr hs hd hgs) h
end
end Go.L
namespace Go.L
open Go Go.RowKit
section
variable {E : Env} {ops : Array Oper} {own : OC} {rest : List Oper} {av : List (Nat × Bool × A)} {K : List (Nat × Bool × A) → Prop} {d : Nat} {op : Op} {ty : TypeId} {pos : String} {aft : Array Edge} {need : Need} {t : A} {j gs : Nat} {cg b : Bool}
theorem cs (hu : OpN E.P own need op ty t) (hr : Reads av true need) (k : Chain E ops own rest ((d, true, t) :: av) K)
    (hs : (need.all fun x => slotIn x.2.1 op.operands.toList) = true := by exact rfl) (hd : Nat.ble (d + 1) E.n = true := by exact rfl) : Chain E ops own (⟨some d, op, ty, pos, aft, none⟩ :: rest) av K := Chain_cons (S_plain hu hr hs hd) k
theorem ct1 (hj : (ops[j]?).bind (·.dst) = some gs) (hl : look av gs = some (true, A.bool b)) (hu : b = true → OpN E.P own need op ty t) (hr : Reads av b need) (k : Chain E ops own rest ((d, b, t) :: av) K)
    (hs : (need.all fun x => slotIn x.2.1 op.operands.toList) = true := by exact rfl) (hd : Nat.ble (d + 1) E.n = true := by exact rfl) (hgs : Nat.ble (gs + 1) E.n = true := by exact rfl) :
    Chain E ops own (⟨some d, op, ty, pos, aft, some (j, true)⟩ :: rest) av K := Chain_cons (S_t1 hj hl hu hr hs hd hgs) k
theorem cf1 (hj : (ops[j]?).bind (·.dst) = some gs) (hl : look av gs = some (true, A.bool b)) (hu : (!b) = true → OpN E.P own need op ty t) (hr : Reads av (!b) need) (k : Chain E ops own rest ((d, !b, t) :: av) K)
    (hs : (need.all fun x => slotIn x.2.1 op.operands.toList) = true := by exact rfl) (hd : Nat.ble (d + 1) E.n = true := by exact rfl) (hgs : Nat.ble (gs + 1) E.n = true := by exact rfl) :
    Chain E ops own (⟨some d, op, ty, pos, aft, some (j, false)⟩ :: rest) av K := Chain_cons (S_f1 hj hl hu hr hs hd hgs) k
theorem ct (hj : (ops[j]?).bind (·.dst) = some gs) (hl : look av gs = some (cg, A.bool b)) (hu : (cg && b) = true → OpN E.P own need op ty t) (hr : Reads av (cg && b) need) (k : Chain E ops own rest ((d, (cg && b), t) :: av) K)
    (hs : (need.all fun x => slotIn x.2.1 op.operands.toList) = true := by exact rfl) (hd : Nat.ble (d + 1) E.n = true := by exact rfl) (hgs : Nat.ble (gs + 1) E.n = true := by exact rfl) :
    Chain E ops own (⟨some d, op, ty, pos, aft, some (j, true)⟩ :: rest) av K := Chain_cons (S_t hj hl hu hr hs hd hgs) k
theorem cf (hj : (ops[j]?).bind (·.dst) = some gs) (hl : look av gs = some (cg, A.bool b)) (hu : (cg && !b) = true → OpN E.P own need op ty t) (hr : Reads av (cg && !b) need) (k : Chain E ops own rest ((d, (cg && !b), t) :: av) K)
    (hs : (need.all fun x => slotIn x.2.1 op.operands.toList) = true := by exact rfl) (hd : Nat.ble (d + 1) E.n = true := by exact rfl) (hgs : Nat.ble (gs + 1) E.n = true := by exact rfl) :
    Chain E ops own (⟨some d, op, ty, pos, aft, some (j, false)⟩ :: rest) av K := Chain_cons (S_f hj hl hu hr hs hd hgs) k
end
end Go.L
