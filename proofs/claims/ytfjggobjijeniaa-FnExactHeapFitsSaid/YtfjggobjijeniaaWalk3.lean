import Derived.Test.YtfjggobjijeniaaWalk2
import Derived.Lib.AppendZeros
/-! Short names of single steps. -/
namespace Go.L
open Go Go.RowKit
theorem tg {av : List (Nat × Bool × A)} {c b cs : Bool} {s : Nat} {x : A} (h : look av s = some (cs, x))
    (hc : c = true → b = true → cs = true := by first | exact fun _ _ => rfl | exact fun h _ => h | exact fun _ h => h | exact fun h k => band h k | exact fun h _ => bandl h | exact fun h _ => bandr h) : Read1 av c (b, .tmp s, x) := ⟨cs, h, hc⟩
section
variable {E : Env} {g : Ctx} {Q : Exit → Act → World → Prop} {ops : Array Oper} {rest : List Oper} {d : Nat} {op : Op} {ty : TypeId} {pos : String} {aft : Array Edge} {need : Need} {t : A} {j gs : Nat} {cg b : Bool}
theorem ws (hu : OpN E.P g.oc need op ty t) (hr : Reads g.sl true need) (h : WL E ops rest { g with sl := (d, true, t) :: g.sl } Q)
    (hs : (need.all fun x => slotIn x.2.1 op.operands.toList) = true := by exact rfl) (hd : Nat.ble (d + 1) E.n = true := by exact rfl) : WL E ops (⟨some d, op, ty, pos, aft, none⟩ :: rest) g Q := WL_step (S_plain hu hr hs hd) h
theorem wt1 (hj : (ops[j]?).bind (·.dst) = some gs) (hl : look g.sl gs = some (true, A.bool b)) (hu : b = true → OpN E.P g.oc need op ty t) (hr : Reads g.sl b need) (h : WL E ops rest { g with sl := (d, b, t) :: g.sl } Q)
    (hs : (need.all fun x => slotIn x.2.1 op.operands.toList) = true := by exact rfl) (hd : Nat.ble (d + 1) E.n = true := by exact rfl) (hgs : Nat.ble (gs + 1) E.n = true := by exact rfl) :
    WL E ops (⟨some d, op, ty, pos, aft, some (j, true)⟩ :: rest) g Q := WL_step (S_t1 hj hl hu hr hs hd hgs) h
theorem wf1 (hj : (ops[j]?).bind (·.dst) = some gs) (hl : look g.sl gs = some (true, A.bool b)) (hu : (!b) = true → OpN E.P g.oc need op ty t) (hr : Reads g.sl (!b) need) (h : WL E ops rest { g with sl := (d, !b, t) :: g.sl } Q)
    (hs : (need.all fun x => slotIn x.2.1 op.operands.toList) = true := by exact rfl) (hd : Nat.ble (d + 1) E.n = true := by exact rfl) (hgs : Nat.ble (gs + 1) E.n = true := by exact rfl) :
    WL E ops (⟨some d, op, ty, pos, aft, some (j, false)⟩ :: rest) g Q := WL_step (S_f1 hj hl hu hr hs hd hgs) h
theorem wt (hj : (ops[j]?).bind (·.dst) = some gs) (hl : look g.sl gs = some (cg, A.bool b)) (hu : (cg && b) = true → OpN E.P g.oc need op ty t) (hr : Reads g.sl (cg && b) need) (h : WL E ops rest { g with sl := (d, (cg && b), t) :: g.sl } Q)
    (hs : (need.all fun x => slotIn x.2.1 op.operands.toList) = true := by exact rfl) (hd : Nat.ble (d + 1) E.n = true := by exact rfl) (hgs : Nat.ble (gs + 1) E.n = true := by exact rfl) :
    WL E ops (⟨some d, op, ty, pos, aft, some (j, true)⟩ :: rest) g Q := WL_step (S_t hj hl hu hr hs hd hgs) h
theorem wf (hj : (ops[j]?).bind (·.dst) = some gs) (hl : look g.sl gs = some (cg, A.bool b)) (hu : (cg && !b) = true → OpN E.P g.oc need op ty t) (hr : Reads g.sl (cg && !b) need) (h : WL E ops rest { g with sl := (d, (cg && !b), t) :: g.sl } Q)
    (hs : (need.all fun x => slotIn x.2.1 op.operands.toList) = true := by exact rfl) (hd : Nat.ble (d + 1) E.n = true := by exact rfl) (hgs : Nat.ble (gs + 1) E.n = true := by exact rfl) :
    WL E ops (⟨some d, op, ty, pos, aft, some (j, false)⟩ :: rest) g Q := WL_step (S_f hj hl hu hr hs hd hgs) h
end
end Go.L
namespace Go.L
open Go Go.RowKit
section
variable {E : Env} {ops : Array Oper} {own : OC} {rest : List Oper} {av : List (Nat × Bool × A)} {K : List (Nat × Bool × A) → Prop} {d : Nat} {op : Op} {ty : TypeId} {pos : String} {aft : Array Edge} {need : Need} {t : A} {j gs : Nat} {cg b : Bool}
theorem cs (hu : OpN E.P own need op ty t) (hr : Reads av true need) (k : Chain E ops own rest ((d, true, t) :: av) K)
    (hs : (need.all fun x => slotIn x.2.1 op.operands.toList) = true := by exact rfl) (hd : Nat.ble (d + 1) E.n = true := by exact rfl) : Chain E ops own (⟨some d, op, ty, pos, aft, none⟩ :: rest) av K := Chain_cons (S_plain hu hr hs hd) k
theorem ct1 (hj : (ops[j]?).bind (·.dst) = some gs) (hl : look av gs = some (true, A.bool b)) (hu : b = true → OpN E.P own need op ty t) (hr : Reads av b need) (k : Chain E ops own rest ((d, b, t) :: av) K)
    (hs : (need.all fun x => slotIn x.2.1 op.operands.toList) = true := by exact rfl) (hd : Nat.ble (d + 1) E.n = true := by exact rfl) (hgs : Nat.ble (gs + 1) E.n = true := by exact rfl) :
    Chain E ops own (⟨some d, op, ty, pos, aft, some (j, true)⟩ :: rest) av K := Chain_cons (S_t1 hj hl hu hr hs hd hgs) k
theorem cf1 (hj : (ops[j]?).bind (·.dst) = some gs) (hl : look av gs = some (true, A.bool b)) (hu : (!b) = true → OpN E.P own need op ty t) (hr : Reads av (!b) need) (k : Chain E ops own rest ((d, !b, t) :: av) K)
    (hs : (need.all fun x => slotIn x.2.1 op.operands.toList) = true := by exact rfl) (hd : Nat.ble (d + 1) E.n = true := by exact rfl) (hgs : Nat.ble (gs + 1) E.n = true := by exact rfl) :
    Chain E ops own (⟨some d, op, ty, pos, aft, some (j, false)⟩ :: rest) av K := Chain_cons (S_f1 hj hl hu hr hs hd hgs) k
theorem ct (hj : (ops[j]?).bind (·.dst) = some gs) (hl : look av gs = some (cg, A.bool b)) (hu : (cg && b) = true → OpN E.P own need op ty t) (hr : Reads av (cg && b) need) (k : Chain E ops own rest ((d, (cg && b), t) :: av) K)
    (hs : (need.all fun x => slotIn x.2.1 op.operands.toList) = true := by exact rfl) (hd : Nat.ble (d + 1) E.n = true := by exact rfl) (hgs : Nat.ble (gs + 1) E.n = true := by exact rfl) :
    Chain E ops own (⟨some d, op, ty, pos, aft, some (j, true)⟩ :: rest) av K := Chain_cons (S_t hj hl hu hr hs hd hgs) k
theorem cf (hj : (ops[j]?).bind (·.dst) = some gs) (hl : look av gs = some (cg, A.bool b)) (hu : (cg && !b) = true → OpN E.P own need op ty t) (hr : Reads av (cg && !b) need) (k : Chain E ops own rest ((d, (cg && !b), t) :: av) K)
    (hs : (need.all fun x => slotIn x.2.1 op.operands.toList) = true := by exact rfl) (hd : Nat.ble (d + 1) E.n = true := by exact rfl) (hgs : Nat.ble (gs + 1) E.n = true := by exact rfl) :
    Chain E ops own (⟨some d, op, ty, pos, aft, some (j, false)⟩ :: rest) av K := Chain_cons (S_f hj hl hu hr hs hd hgs) k
end
end Go.L
/-! Method values: a function with its first arguments. -/
namespace Go.L
open Go Go.RowKit
def A.mc (f : FuncId) (bs : List A) : A :=
  ⟨fun r v => ∃ vs : List Value, v = .func (.func f) vs.toArray #[] ∧ All2 r bs vs, fun h ⟨vs, e, k⟩ => ⟨vs, e, k.mono h⟩⟩
section
variable {P : Program} {own : OC} {ty : TypeId}
theorem O_makeBound {f : FuncId} {xs : List Operand} {bs : List A} (hl : xs.length = bs.length) :
    OpN P own ((xs.zip bs).map fun z => (true, z.1, z.2)) (.makeFunc (.func f) xs.toArray #[]) ty (A.mc f bs) := fun r w a hok _ hn => by
  have := all2_args hl hn
  simp only [exec, execOp, Sem.run_bind, Instr.makeFunc, Sem.run_pure, Result.andThen_ok]
  exact Good.here hok ⟨xs.map a.eval, by simp, this⟩
theorem O_callmc {f : FuncId} {g : Operand} {xs : List Operand} {ts bs : List A} {t : A} {tt : Array TypeId} (hf : CallF P f) (h : FnC P f (bs ++ ts) t) (hl : xs.length = ts.length) :
    OpN P own ((true, g, A.mc f bs) :: (xs.zip ts).map fun z => (true, z.1, z.2)) (.call { callee := .value g, args := xs.toArray, argTypes := tt }) ty t := fun r w a hok _ hn => by
  have ha := all2_args hl (fun z hz => hn z (List.mem_cons_of_mem _ hz))
  obtain ⟨vs, hg, hv⟩ := hn (true, g, A.mc f bs) (List.mem_cons_self ..) rfl
  have hg : a.eval g = .func (.func f) vs.toArray #[] := hg
  have hcall := h r w (vs ++ xs.map a.eval) hok (hv.append ha)
  simp only [exec, execOp, resolve, Sem.run_bind, Sem.run_pure, Result.andThen_ok, hg, Deferred.ofValue, invoke]
  simp only [List.map_toArray, List.append_toArray, Array.append_empty, hf w _]
  exact ⟨rfl, hcall⟩
theorem OneV.mc {f : FuncId} {bs : List A} : OneV (A.mc f bs) := fun _ _ ⟨_, h, _⟩ => by rw [h]; exact ⟨rfl, rfl⟩
end
end Go.L
/-! Arrays and structs as values: literals, elements, fields. -/
namespace Go.L
open Go Go.RowKit
def TFt (P : Program) (t j off ft : Nat) : Prop := (match P.underlying t with | some (.struct fs) => (fs[j]?).map fun f => (f.offset, f.type) | _ => none) = some (off, ft)
def TBA (P : Program) (t : TypeId) (zs : List Value) (n e k : Nat) : Prop := zeroCellsOf P t = some zs ∧ TAr P t n e k
theorem run_part_atom {P : Program} {w : World} {e off : Nat} {cs : Array Value} {v : Value} (h : TA P e) (hv : cs[off]? = some v) : (part e cs off).run P w = .ok v w := by
  simp [part, h.isAgg, hv]
theorem run_part_agg {P : Program} {w : World} {e off k : Nat} {cs : Array Value} (h : TG P e k) : (part e cs off).run P w = .ok (.agg (cs.extract off (off + k))) w := by
  simp [part, h.isAgg, run_sizeOf h.2]
section
variable {P : Program} {own : OC} {ty T : TypeId} {x y : Operand}
theorem O_indexag {n e k : Nat} {l : List A} {m : Int} (h : TAr P T n e k) (he : TG P e k) (hb : 0 ≤ m ∧ m < n) :
    OpN P own [(true, x, A.agg l), (true, y, A.int m)] (.index T x y) ty (A.agg ((l.drop (m.toNat * k)).take k)) := fun r w a hok _ hn => by
  obtain ⟨vs, hx, hl⟩ := hn (true, x, A.agg l) (by simp) rfl
  have hx : a.eval x = .agg vs := hx
  have hy : a.eval y = .int .i64 m := hn (true, y, A.int m) (by simp) rfl
  have : (exec a (.index T x y) ty).run P w = .ok (.value (.agg (vs.extract (m.toNat * k) (m.toNat * k + k)))) w := by
    simp only [exec, execOp, hx, hy, Sem.run_bind, Instr.index, asIntOf, Sem.run_pure, Result.andThen_ok, run_underlying h.1, if_pos hb, run_sizeOf h.2, run_part_agg he]
  rw [this]
  refine Good.here hok ⟨_, rfl, ?_⟩
  have h1 : All2 r ((l.drop (m.toNat * k)).take k) ((vs.toList.drop (m.toNat * k)).take k) := by
    have key : ∀ (o c : Nat) (l : List A) (us : List Value), All2 r l us → All2 r ((l.drop o).take c) ((us.drop o).take c) := by
      intro o c l us hk
      refine All2.of_get (by simp [hk.length]) fun i t v ht hv => ?_
      rw [List.getElem?_take] at ht hv
      split at ht
      · rename_i hi
        rw [if_pos hi] at hv
        rw [List.getElem?_drop] at ht hv
        obtain ⟨v', e', hp⟩ := hk.get _ _ ht
        rw [hv] at e'; cases e'; exact hp
      · cases ht
    exact key _ _ _ _ hl
  have e2 : (vs.extract (m.toNat * k) (m.toNat * k + k)).toList = (vs.toList.drop (m.toNat * k)).take k := by
    rw [Array.toList_extract, List.extract_eq_take_drop]; congr 1; omega
  rw [e2]; exact h1
theorem O_fieldat {j off ft : Nat} {l : List A} {t : A} (h : TFt P T j off ft) (hf : TA P ft) (ht : l[off]? = some t) :
    OpN P own [(true, x, A.agg l)] (.field T x j) ty t := fun r w a hok _ hn => by
  obtain ⟨vs, hx, hl⟩ := hn (true, x, A.agg l) (by simp) rfl
  have hx : a.eval x = .agg vs := hx
  obtain ⟨v, hv, hp⟩ := hl.get off t ht
  unfold TFt at h
  split at h
  · rename_i fs hu
    obtain ⟨f, hf1, hf2⟩ := Option.map_eq_some_iff.1 h
    cases hf2
    have : (exec a (.field T x j) ty).run P w = .ok (.value v) w := by
      simp only [exec, execOp, hx, Sem.run_bind, Instr.field, asAgg, Sem.run_pure, Result.andThen_ok, run_underlying hu, hf1]
      rw [run_part_atom hf (by simpa using hv)]
      rfl
    rw [this]
    exact Good.here hok hp
  · cases h
theorem O_buildArr {zs : List Value} {n e k : Nat} {ps : List (Nat × Operand)} (ls : List (A × List A)) (h : TBA P T zs n e k) (hp : partsOk (slPlaces n k) ps ls = true) (hc : AllCells ls)
    (hf : fitsL zs.length (partOffs (slPlaces n k) ps ls) = true) :
    OpN P own ((ps.zip ls).map fun z => (true, z.1.2, z.2.1)) (.build T ps.toArray) ty (A.agg (fillL (zs.map A.val) (partOffs (slPlaces n k) ps ls))) := fun r w a hok _ hn => by
  obtain ⟨z, hzc, hzr⟩ := TZ.run h.1
  obtain ⟨hl, hq⟩ := parts_spec hp hc hn
  obtain ⟨out, ho, hout⟩ := fill_run (r := r) (place := fun i : Nat => (slPlaces n k)[i]?) (ps.map fun x => (x.1, a.eval x.2)) (partOffs (slPlaces n k) ps ls) z.cells (zs.map A.val) (by rw [hzc]; exact All2.vals zs) (by simpa using hf) (by simpa using hl) hq
  have hsame : ∀ p ∈ ps.map fun x => (x.1, a.eval x.2), (slPlaces n k)[p.1]? = (fun i : Nat => some (i * k, k)) p.1 := by
    intro p hp'
    obtain ⟨j, hj, ej⟩ := List.getElem_of_mem hp'
    have hjl : j < (partOffs (slPlaces n k) ps ls).length := by rw [← hl]; simpa using hj
    have := (hq j p _ (by rw [List.getElem?_eq_getElem hj, ej]) (List.getElem?_eq_getElem hjl)).1
    have hlt := (List.getElem?_eq_some_iff.1 this).1
    have hlt' : p.1 < n := by simpa [slPlaces] using hlt
    simp [slPlaces, hlt']
  have ho2 := fill_place (place := fun i : Nat => (slPlaces n k)[i]?) (place' := fun i : Nat => some (i * k, k)) _ _ hsame ho
  have ho' : Instr.fill (fun i : Nat => some (i * k, k)) z.cells ((ps.toArray.map fun x => (x.1, a.eval x.2)).toList) = some out := by simpa using ho2
  have : (exec a (.build T ps.toArray) ty).run P w = .ok (.value (.agg out)) w := by
    simp only [exec, execOp, Sem.run_bind, Instr.build, hzr, Result.andThen_ok, run_underlying h.2.1, run_sizeOf h.2.2]
    simp only [ho', Sem.run_pure, Result.andThen_ok]
  rw [this]
  exact Good.here hok ⟨out, rfl, hout⟩
end
theorem flat_get {T S : Type} {f : T → List S} {k : Nat} (hk : ∀ y, (f y).length = k) : ∀ {L : List T} {i j : Nat} {y : T}, L[i]? = some y → j < k → (L.flatMap f)[i * k + j]? = (f y)[j]?
  | [], i, j, y, h, _ => by simp at h
  | x :: L, 0, j, y, h, hj => by
    simp at h; subst h
    rw [List.flatMap_cons, Nat.zero_mul, Nat.zero_add, List.getElem?_append_left (by rw [hk]; exact hj)]
  | x :: L, i + 1, j, y, h, hj => by
    rw [List.flatMap_cons, List.getElem?_append_right (by rw [hk, Nat.add_mul]; omega), hk, show (i + 1) * k + j - k = i * k + j from by rw [Nat.add_mul]; omega]
    exact flat_get hk (by simpa using h) hj
end Go.L
/-! slices.Grow of nil: append of made zeros; a slice of a slice's room. -/
namespace Go.L
open Go Go.RowKit
section
variable {P : Program} {own : OC} {ty T : TypeId} {x hi : Operand} {e k : Nat}
theorem O_capv {p : Option Addr} {n cap : Nat} (h : TS P T e k) : OpN P own [(true, x, A.val (.slice p n cap))] (.call { callee := .builtin .cap, args := #[x], argTypes := #[T] }) ty (A.int cap) := fun r w a hok _ hn => by
  have hx : a.eval x = .slice p n cap := hn (true, x, A.val (.slice p n cap)) (List.mem_singleton.2 rfl) rfl
  have hr : (Builtin.cap_ #[T] ty #[.slice p n cap]).run P w = .ok (.int .i64 cap) w := by
    simp [Builtin.cap_, run_underlying h.under, goInt]
  simp only [exec, execOp, resolve, Sem.run_bind, Sem.run_pure, Result.andThen_ok, invoke, builtin]
  simp only [List.map_toArray, List.map_cons, List.map_nil, hx, hr, Result.andThen_ok]
  exact Good.here hok rfl
theorem O_slice0n (h : TS P T e k) : OpN P own [(true, x, A.val (.slice none 0 0)), (true, hi, A.int 0)] (.slice T x none (some hi) none) ty (A.val (.slice none 0 0)) := fun r w a hok _ hn => by
  have hx : a.eval x = .slice none 0 0 := hn (true, x, A.val (.slice none 0 0)) (by simp) rfl
  have hj : a.eval hi = .int .i64 0 := hn (true, hi, A.int 0) (by simp) rfl
  have hr := run_slice_h (P := P) (w := w) T none 0 0 h.elem .i64 0 (by omega) (by omega)
  have hz : sizeAt P (P.elem T) = some k := by rw [h.elem_eq]; exact h.2
  simp only [exec, execOp, hx, hj, Sem.run_bind, Option.map_some, Option.map_none, run_sliceAt_slice (P := P) w T _ _ _ _ h.elem, hr, run_sizeOf hz, Result.andThen_ok, Sem.run_pure]
  exact Good.here hok rfl
theorem O_slice0v {b n cap : Nat} (h : TS P T e k) : OpN P own [(true, x, A.val (.slice (some ⟨b, 0, none⟩) n cap)), (true, hi, A.int 0)] (.slice T x none (some hi) none) ty (A.val (.slice (some ⟨b, 0, none⟩) 0 cap)) := fun r w a hok _ hn => by
  have hx : a.eval x = .slice (some ⟨b, 0, none⟩) n cap := hn (true, x, A.val (.slice (some ⟨b, 0, none⟩) n cap)) (by simp) rfl
  have hj : a.eval hi = .int .i64 0 := hn (true, hi, A.int 0) (by simp) rfl
  have hr := run_slice_h (P := P) (w := w) T (some ⟨b, 0, none⟩) n cap h.elem .i64 0 (by omega) (by omega)
  have hz : sizeAt P (P.elem T) = some k := by rw [h.elem_eq]; exact h.2
  simp only [exec, execOp, hx, hj, Sem.run_bind, Option.map_some, Option.map_none, run_sliceAt_slice (P := P) w T _ _ _ _ h.elem, hr, run_sizeOf hz, Result.andThen_ok, Sem.run_pure]
  refine Good.here hok ?_
  show sliced _ _ _ _ _ = _
  simp [sliced, Addr.add]
end
section
variable {E : Env} {g : Ctx} {Q : Exit → Act → World → Prop} {ops : Array Oper} {rest : List Oper}
theorem slv_room {S : Type} {b cap k : Nat} {f : S → List A} (h : cap ≤ maxLen) : Imp (A.val (.slice (some ⟨b, 0, none⟩) 0 cap)) (A.slv (.slice (some ⟨b, 0, none⟩) 0 cap) k f []) := fun r v hv => ⟨hv, _, 0, cap, hv, rfl, Nat.zero_le _, h, fun h => absurd rfl h⟩
/-- Append of made zeros to nil: its slice of length 0 has room. -/
theorem WL_growZ {d t tn ty e k bytes : Nat} {x y : Operand} {pos : String} {aft : Array Edge} {n : Int} (hT : TE E.P t e k bytes) (htn : E.P.underlying tn = some (.int .i64)) (hk : 0 < k) (hr : Reads g.sl true [(true, x, A.val (.slice none 0 0)), (true, y, A.int n)])
    (h0 : 0 < n) (hb : n.toNat * bytes ≤ 140737488355328) (h63 : n ≤ maxLen) (hd : Nat.ble (d + 1) E.n = true)
    (h : ∀ b cap, cap ≤ maxLen → WL E ops rest { g with sl := (d, true, A.val (.slice (some ⟨b, 0, none⟩) n.toNat cap)) :: g.sl, rooms := (.slice (some ⟨b, 0, none⟩) 0 cap, e, k) :: g.rooms } Q) :
    WL E ops (⟨some d, .call { callee := .builtin .append, args := #[x, y], argTypes := #[t, tn] }, ty, pos, aft, none⟩ :: rest) g Q := by
  intro a w ⟨h1, h2, r, H⟩
  have hread := hr.use rfl (r := r) (a := a) (fun s c x e => H.slots s c x e)
  have hx : a.eval x = .slice none 0 0 := hread (true, x, A.val (.slice none 0 0)) (by simp) rfl
  have hy : a.eval y = .int .i64 n := hread (true, y, A.int n) (by simp) rfl
  obtain ⟨ht, i, z, hi, hz, rfl, rfl, hzs⟩ := hT
  have hn63 : (n.toNat : Int) ≤ 9223372036854775807 := by simp only [maxLen] at h63; omega
  have hrun := Go.Lib.run_append_nil_zeros (P := E.P) w t tn ty e i z .i64 .i64 ht htn hi hz n.toNat (by omega) hk hn63 (by omega)
  have en : ((n.toNat : Nat) : Int) = n := by omega
  rw [en] at hrun
  have hcap1 := grownCap_ge w n.toNat 0 e
  have hcap2 := grownCap_le_maxLen w n.toNat 0 e (by simp only [maxLen] at h63 ⊢; omega)
  have hexec : (execOp a.eval ⟨some d, .call { callee := .builtin .append, args := #[x, y], argTypes := #[t, tn] }, ty, pos, aft, none⟩).run E.P w =
      .ok (.value (.slice (some ⟨w.heap.size, 0, none⟩) n.toNat (grownCap w n.toNat 0 e))) (w.drew.alloc (.cells (Builtin.zeroCells z.cells n.toNat ++ Builtin.zeroCells z.cells (grownCap w n.toNat 0 e - n.toNat)) e)) := by
    simp only [execOp, resolve, invoke, builtin, Sem.run_bind, Sem.run_pure, Result.andThen_ok, List.map_toArray, List.map_cons, List.map_nil, hx, hy, hrun]
  have gr : Grow r w r (w.drew.alloc (.cells (Builtin.zeroCells z.cells n.toNat ++ Builtin.zeroCells z.cells (grownCap w n.toNat 0 e - n.toNat)) e)) := Grow.same H.ok (((Below.refl _ _).drew).alloc (Nat.le_refl _) _)
  refine wpListIn_value rfl (by simp) (fun _ => trivial) hexec (h w.heap.size _ hcap2 _ _ ⟨by rw [size_put]; exact h1, ?_, r, ?_⟩)
  · rw [defers_put]; exact h2.grow H gr
  · have hlt : d < a.tmps.size := by rw [h1]; exact Nat.le_of_ble_eq_true hd
    have H' := H.grow gr (a' := a) H.slots
    exact { H' with
      slots := Slots.put H'.slots hlt (fun _ => rfl) (fun hc => by cases hc)
      room := fun x hx => by
        rcases List.mem_cons.1 hx with rfl | hx
        · refine ⟨rfl, rfl, Nat.zero_le _, hcap2, ⟨_, World.alloc_heap_new w.drew _, ?_⟩, fun o sp _ => ?_⟩
          · simp only [Array.size_append, size_zeroCells, hzs]
            rw [← Nat.add_mul]; congr 1; omega
          cases e' : r _ with
          | none => rfl
          | some v => exact absurd (Rho.ok_lt H.ok e') (by simp)
        · exact H'.room x hx
      roomB := fun x hx b hb => by
        rcases List.mem_cons.1 hx with rfl | hx
        · cases hb
          refine ⟨.inr H.size, fun hm => ?_⟩
          obtain ⟨y, hy, e'⟩ := List.mem_map.1 hm
          have := (H.own y hy).lt
          have e'' : y.1 = w.heap.size := e'
          omega
        · exact H'.roomB x hx b hb
      roomN := by
        rw [List.filterMap_cons]
        show (w.heap.size :: _).Nodup
        rw [List.nodup_cons]
        refine ⟨fun hm => ?_, H'.roomN⟩
        obtain ⟨y, hy, e'⟩ := List.mem_filterMap.1 hm
        have := (H.room y hy).lt e'
        omega }
end
end Go.L
/-! Maps that are read. -/
namespace Go.L
open Go Go.RowKit
/-- A map that is read: its entries. -/
def MpfP (es : List (Value × A)) (r : Rho) (v : Value) : Prop :=
  ∃ b, v = .map (some b) ∧ ∃ arr : Array MapEntry, r ⟨b, 0, some 0⟩ = some (encMap arr) ∧ arr.toList.map (fun e : MapEntry => e.key) = es.map (fun e : Value × A => e.1) ∧ All2 r (es.map (fun e : Value × A => e.2)) (arr.toList.map (fun e : MapEntry => e.val))
theorem MpfP.mono {es : List (Value × A)} {r s : Rho} {v : Value} (h : r.le s) (k : MpfP es r v) : MpfP es s v := by
  obtain ⟨b, e, arr, h1, h2, h3⟩ := k
  exact ⟨b, e, arr, h _ _ h1, h2, h3.mono h⟩
def A.mpf (es : List (Value × A)) : A := ⟨MpfP es, MpfP.mono⟩
theorem OneV.mpf {es : List (Value × A)} : OneV (A.mpf es) := fun _ _ ⟨_, h, _⟩ => by rw [h]; exact ⟨rfl, rfl⟩
theorem OneV.mp {b : Option Nat} : OneV (A.val (.map b)) := fun _ _ h => by cases h; exact ⟨rfl, rfl⟩
theorem encMap_inj {a b : Array MapEntry} (h : encMap a = encMap b) : a.toList.map (·.key) = b.toList.map (·.key) ∧ a.toList.map (·.val) = b.toList.map (·.val) := by
  unfold encMap at h
  have h : (a.map fun e : MapEntry => Value.tuple #[e.key, e.val]) = b.map fun e : MapEntry => Value.tuple #[e.key, e.val] := by injection h
  have h := congrArg Array.toList h
  rw [Array.toList_map, Array.toList_map] at h
  have key : ∀ (l m : List MapEntry), (l.map fun e : MapEntry => Value.tuple #[e.key, e.val]) = m.map (fun e : MapEntry => Value.tuple #[e.key, e.val]) → l.map (·.key) = m.map (·.key) ∧ l.map (·.val) = m.map (·.val) := by
    intro l
    induction l with
    | nil => intro m h; cases m with
      | nil => exact ⟨rfl, rfl⟩
      | cons _ _ => simp at h
    | cons x l ih => intro m h; cases m with
      | nil => simp at h
      | cons y m =>
        rw [List.map_cons, List.map_cons] at h
        injection h with h1 h2
        injection h1 with h1
        simp at h1
        obtain ⟨q1, q2⟩ := ih m h2
        simp [h1.1, h1.2, q1, q2]
  exact key _ _ h
theorem A.mpf.at {es : List (Value × A)} {r : Rho} {w : World} {v : Value} (hok : r.ok w) (h : (A.mpf es).p r v) : ∃ b, v = .map (some b) ∧ MapAt r w b es := by
  obtain ⟨b, e, arr, h1, h2, h3⟩ := h
  refine ⟨b, e, ?_⟩
  have := hok _ _ h1
  unfold gc at this
  simp only at this
  split at this
  · rename_i es' cl hb
    have := encMap_inj (Option.some.inj this)
    exact ⟨es', cl, hb, this.1.trans h2, this.2 ▸ h3⟩
  · cases this
section
variable {P : Program} {own : OC} {ty T k e : TypeId} {m x : Operand}
theorem O_lookupf {es : List (Value × A)} {v z : Value} (hT : MapT P T k e) (hz : ∀ w, (zeroValue e).run P w = .ok z w) (hk : ∀ y ∈ es, KeyOk P k y.1) (hn : (es.map (·.1)).Nodup) (hv : KeyOk P k v) :
    OpN P own [(true, m, A.mpf es), (true, x, A.val v)] (.lookup T m x true) ty (A.tup [(mfind es v).getD (A.val z), A.bool (mfind es v).isSome]) := fun r w a hok _ hu => by
  obtain ⟨b, hm, hat⟩ := A.mpf.at hok (hu (true, m, A.mpf es) (by simp) rfl)
  have hx : a.eval x = v := hu (true, x, A.val v) (by simp) rfl
  obtain ⟨u, q1, q2, q3⟩ := run_lookup_ok (w := w) hT hat hk hn hv (hz w)
  have hrun : (exec a (.lookup T m x true) ty).run P w = .ok (.value (.tuple #[u, .bool (mfind es v).isSome])) w := by
    simp [exec, execOp, hm, hx, q1]
  rw [hrun]
  refine Good.here hok ⟨_, rfl, ?_, rfl, trivial⟩
  cases hf : mfind es v with
  | none => exact q3 hf
  | some t => exact q2 t hf
theorem run_lookup_ok0 {w : World} (h : MapT P T k e) {r : Rho} {b : Nat} {es : List (Value × A)} (hm : MapAt r w b es) (hk : ∀ x ∈ es, KeyOk P k x.1) (hn : (es.map (·.1)).Nodup) {v z : Value} (hv : KeyOk P k v) (hz : (zeroValue e).run P w = .ok z w) :
    ∃ u, (Instr.lookup T (.map (some b)) v false).run P w = .ok u w ∧ (∀ t, mfind es v = some t → t.p r u) ∧ (mfind es v = none → u = z) := by
  obtain ⟨arr, cl, hb, h1, h2⟩ := hm
  obtain ⟨l, hl⟩ := hv
  have hkeys : ∀ x ∈ arr.toList, ∃ l, keyOf P k x.key = some l := fun x hx => by
    have : x.key ∈ es.map (·.1) := by rw [← h1]; exact List.mem_map.2 ⟨x, hx, rfl⟩
    obtain ⟨y, hy, e'⟩ := List.mem_map.1 this
    obtain ⟨l, hl⟩ := hk y hy
    exact ⟨l, by rw [← e']; exact hl⟩
  rcases h.keyed.find w hl arr.toList hkeys with ⟨q1, q2⟩ | ⟨j, e0, q1, q2, q3⟩
  · have hnone : mfind es v = none := mfind_none fun x hx e' => by
      have : x.1 ∈ arr.toList.map (·.key) := by rw [h1]; exact List.mem_map.2 ⟨x, hx, rfl⟩
      obtain ⟨y, hy, e2⟩ := List.mem_map.1 this
      exact q2 y hy (e2.trans e')
    refine ⟨z, ?_, fun t ht => (by rw [hnone] at ht; cases ht), fun _ => rfl⟩
    simp [Instr.lookup, run_underlying h.desc, MapKept.run_getObj_map hb, h.keyed.check w _ hl, q1, hz]
  · have hjl : j < es.length := by
      have e1 := congrArg List.length h1
      have := (List.getElem?_eq_some_iff.1 q2).1
      simp at e1 this; omega
    have hkey : (es[j]).1 = v := by
      have e1 : (arr.toList.map (·.key))[j]? = some e0.key := by rw [List.getElem?_map, q2]; rfl
      rw [h1, List.getElem?_map, List.getElem?_eq_getElem hjl] at e1
      have := Option.some.inj e1
      exact this.trans q3
    have hsome : mfind es v = some (es[j]).2 := mfind_some hn (k := (es[j]).1) (List.getElem_mem hjl) hkey
    refine ⟨e0.val, ?_, fun t ht => ?_, fun hnone => by rw [hsome] at hnone; cases hnone⟩
    · simp [Instr.lookup, run_underlying h.desc, MapKept.run_getObj_map hb, h.keyed.check w _ hl, q1]
    · rw [hsome] at ht; cases ht
      refine All2.map h2 (i := j) ?_ ?_
      · rw [List.getElem?_map, List.getElem?_eq_getElem hjl]; rfl
      · rw [List.getElem?_map, q2]; rfl
theorem O_lookupf0 {es : List (Value × A)} {v z : Value} (hT : MapT P T k e) (hz : ∀ w, (zeroValue e).run P w = .ok z w) (hk : ∀ y ∈ es, KeyOk P k y.1) (hn : (es.map (·.1)).Nodup) (hv : KeyOk P k v) :
    OpN P own [(true, m, A.mpf es), (true, x, A.val v)] (.lookup T m x false) ty ((mfind es v).getD (A.val z)) := fun r w a hok _ hu => by
  obtain ⟨b, hm, hat⟩ := A.mpf.at hok (hu (true, m, A.mpf es) (by simp) rfl)
  have hx : a.eval x = v := hu (true, x, A.val v) (by simp) rfl
  obtain ⟨u, q1, q2, q3⟩ := run_lookup_ok0 (w := w) hT hat hk hn hv (hz w)
  have hrun : (exec a (.lookup T m x false) ty).run P w = .ok (.value u) w := by
    simp [exec, execOp, hm, hx, q1]
  rw [hrun]
  refine Good.here hok ?_
  cases hf : mfind es v with
  | none => exact q3 hf
  | some t => exact q2 t hf
end
section
variable {E : Env} {g : Ctx} {Q : Exit → Act → World → Prop} {ops : Array Oper}
/-- A map of one's own, held in a cell of one's own, is no more written: it is read. -/
theorem WL_freezeMap {l : List Oper} (j i o : Nat) {b tb m : Nat} {es : List (Value × A)} {cells : List A} (hj : g.maps[j]? = some (m, es)) (hi : g.own[i]? = some (b, tb, cells)) (hc : cells[o]? = some (A.val (.map (some m))))
    (h : WL E ops l { g with own := g.own.set i (b, tb, cells.set o (A.mpf es)), maps := g.maps.eraseIdx j } Q) : WL E ops l g Q := by
  intro a w ⟨h1, h2, r, H⟩
  have hmem := List.mem_of_getElem? hj
  obtain ⟨arr, cl, hb, k1, k2⟩ := H.mp.at_ _ hmem
  let r' : Rho := fun x => if x = ⟨m, 0, some 0⟩ then some (encMap arr) else r x
  have hun := H.mp.un _ hmem
  have hle : r.le r' := fun x v e => by
    show (if _ then _ else _) = _
    rw [if_neg]; exact e
    intro e2; rw [e2, hun] at e; cases e
  have hother : ∀ x : Addr, x.block ≠ m → r' x = r x := fun x hx => by
    show (if _ then _ else _) = _
    rw [if_neg (fun q => hx (by rw [q]))]
  have hnew : r' ⟨m, 0, some 0⟩ = some (encMap arr) := by
    show (if _ then _ else _) = _
    rw [if_pos rfl]
  have hmpf : (A.mpf es).p r' (.map (some m)) := ⟨m, rfl, arr, hnew, k1, k2.mono hle⟩
  have hownne : ∀ x ∈ g.own, x.1 ≠ m := fun x hx e => by
    obtain ⟨_, vs, q, _⟩ := H.own x hx
    rw [e, hb] at q; cases q
  have hil : i < g.own.length := (List.getElem?_eq_some_iff.1 hi).1
  have hset : (g.own.set i (b, tb, cells.set o (A.mpf es))).map (·.1) = g.own.map (·.1) := by
    rw [List.map_set]
    apply List.ext_getElem?
    intro n
    rw [List.getElem?_set]
    split
    · rename_i e; subst e
      rw [List.getElem?_map, hi]; simp [hil]
    · rfl
  have hsub : ∀ x ∈ g.maps.eraseIdx j, x ∈ g.maps ∧ x.1 ≠ m := by
    intro x hx
    refine ⟨List.mem_of_mem_eraseIdx hx, fun e => ?_⟩
    obtain ⟨q, hq, e'⟩ := List.mem_eraseIdx_iff_getElem?.1 hx
    have hjl : j < g.maps.length := (List.getElem?_eq_some_iff.1 hj).1
    refine hq ((List.getElem?_inj (by simpa using hjl) H.mp.nodup).1 ?_).symm
    rw [List.getElem?_map, hj, List.getElem?_map, e']
    simp [e]
  refine h a w ⟨h1, h2, r', ?_⟩
  exact {
    le := H.le.trans_le hle
    cps := fun c hc => Rho.le_trans (H.cps c hc) hle
    ok := fun x y e => by
      by_cases q : x = ⟨m, 0, some 0⟩
      · subst q
        rw [hnew] at e; cases e
        unfold gc; simp only; rw [hb]
      · have e : (if x = ⟨m, 0, some 0⟩ then some (encMap arr) else r x) = some y := e
        rw [if_neg q] at e
        exact H.ok x y e
    fresh := fun x y e => by
      by_cases q : x = ⟨m, 0, some 0⟩
      · subst q
        exact .inr ⟨H.mp.base _ hmem, fun cs' ty' fr e' => by rw [hb] at e'; cases e'⟩
      · have e : (if x = ⟨m, 0, some 0⟩ then some (encMap arr) else r x) = some y := e
        rw [if_neg q] at e
        exact H.fresh x y e
    size := H.size
    block := H.block
    unf := H.unf
    os := H.os
    tape := H.tape
    output := H.output
    slots := fun s c x e => ⟨fun hc => x.mono hle ((H.slots s c x e).1 hc), (H.slots s c x e).2⟩
    own := fun x hx => by
      obtain ⟨n, hn, rfl⟩ := List.getElem_of_mem hx
      have hn' : n < g.own.length := by simpa using hn
      have hbase := H.own _ (List.getElem_mem hn')
      have hne := hownne _ (List.getElem_mem hn')
      rw [List.getElem_set]
      split
      · rename_i e; subst e
        have e2 : g.own[i] = (b, tb, cells) := by rw [List.getElem?_eq_getElem hn'] at hi; exact Option.some.inj hi
        rw [e2] at hbase hne
        obtain ⟨q1, vs, q2, q3⟩ := hbase
        refine ⟨fun o s => by rw [hother _ hne]; exact q1 o s, vs, q2, ?_⟩
        refine All2.of_get (by rw [List.length_set]; exact q3.length) fun p c v hc' hv' => ?_
        rw [List.getElem?_set] at hc'
        split at hc'
        · rename_i e; subst e
          split at hc'
          · cases hc'
            obtain ⟨v2, hv2, hp2⟩ := q3.get _ _ hc
            rw [hv'] at hv2; cases hv2
            have : v = .map (some m) := hp2
            rw [this]; exact hmpf
          · cases hc'
        · obtain ⟨v2, hv2, hp2⟩ := q3.get _ _ hc'
          rw [hv'] at hv2; cases hv2
          exact c.mono hle hp2
      · obtain ⟨q1, vs, q2, q3⟩ := hbase
        exact ⟨fun o s => by rw [hother _ hne]; exact q1 o s, vs, q2, q3.mono hle⟩
    ownB := fun x hx => by
      have : x.1 ∈ (g.own.set i (b, tb, cells.set o (A.mpf es))).map (·.1) := List.mem_map.2 ⟨x, hx, rfl⟩
      rw [hset] at this
      obtain ⟨y, hy, e⟩ := List.mem_map.1 this
      rw [← e]; exact H.ownB y hy
    nodup := by rw [hset]; exact H.nodup
    room := fun x hx => by
      have := H.room x hx
      unfold RoomOk at this ⊢
      split at this
      · exact this
      · rename_i ad n c e
        obtain ⟨h1, h2, h3, h4, ⟨vs, h5, h6⟩, h7⟩ := this
        have hne : ad.block ≠ m := fun e => by rw [e, hb] at h5; cases h5
        exact ⟨h1, h2, h3, h4, ⟨vs, h5, h6⟩, fun o sp ho => by rw [hother ⟨ad.block, o, sp⟩ hne]; exact h7 o sp ho⟩
      · exact this
    roomB := fun x hx b' e => by
      rw [hset]; exact H.roomB x hx b' e
    roomN := H.roomN
    mp := ⟨fun x hx => let ⟨arr', cl', q1, q2, q3⟩ := H.mp.at_ x (hsub x hx).1; ⟨arr', cl', q1, q2, q3.mono hle⟩, fun x hx o s => by rw [hother _ (hsub x hx).2]; exact H.mp.un x (hsub x hx).1 o s, fun x hx => H.mp.base x (hsub x hx).1,
      H.mp.nodup.sublist ((List.eraseIdx_sublist g.maps j).map _), H.mp.obj, H.mp.objN⟩ }
end
end Go.L
/-! copy; numbers of 64 bits without sign; least and greatest; elements of arrays; rounds with two values. -/
namespace Go.L
open Go Go.RowKit
abbrev A.u64 (n : Int) : A := A.val (.int .u64 n)
theorem wrap_u64 {n : Int} (h0 : 0 ≤ n) (h1 : n ≤ 18446744073709551615) : IntKind.u64.wrap n = n := by
  simp [IntKind.wrap, IntKind.bits, IntKind.signed]; omega
section
variable {P : Program} {own : OC} {ty T T2 : TypeId} {x y : Operand} {m n : Int}
theorem O_toU (hS : P.underlying T = some (.int .i64)) (hD : P.underlying T2 = some (.int .u64)) (h0 : 0 ≤ n) (h1 : n ≤ 9223372036854775807) : OpN P own [(true, x, A.int n)] (.convert T T2 x) ty (A.u64 n) := fun r w a hok _ hn => by
  have hx : a.eval x = .int .i64 n := hn (true, x, A.int n) (by simp) rfl
  simp [exec, execOp, hx, convert, run_underlying hS, run_underlying hD, Conv.intToInt, wrap_u64 h0 (by omega)]
  exact Good.here hok rfl
theorem O_ofU (hS : P.underlying T = some (.int .u64)) (hD : P.underlying T2 = some (.int .i64)) (h0 : 0 ≤ n) (h1 : n ≤ 9223372036854775807) : OpN P own [(true, x, A.u64 n)] (.convert T T2 x) ty (A.int n) := fun r w a hok _ hn => by
  have hx : a.eval x = .int .u64 n := hn (true, x, A.u64 n) (by simp) rfl
  simp [exec, execOp, hx, convert, run_underlying hS, run_underlying hD, Conv.intToInt, wrap_in (show inI n from ⟨by omega, h1⟩)]
  exact Good.here hok rfl
theorem intU2 {a : Act} {x y : Operand} {m n : Int} {r : Rho} (hn : ∀ z ∈ [(true, x, A.u64 m), (true, y, A.u64 n)], z.1 = true → z.2.2.p r (a.eval z.2.1)) :
    a.eval x = .int .u64 m ∧ a.eval y = .int .u64 n := ⟨hn (true, x, A.u64 m) (by simp) rfl, hn (true, y, A.u64 n) (by simp) rfl⟩
theorem O_addU (h0 : 0 ≤ m + n) (h1 : m + n ≤ 9223372036854775807) : OpN P own [(true, x, A.u64 m), (true, y, A.u64 n)] (.binOp .add T x y T2) ty (A.u64 (m + n)) := fun r w a hok _ hn => by
  obtain ⟨hx, hy⟩ := intU2 hn
  simp only [exec, execOp, hx, hy, eqGuard, binOp, Op.intArith, Sem.run_bind, Sem.run_pure]
  simp [wrap_u64 h0 (by omega)]
  exact Good.here hok rfl
theorem O_mulU (h0 : 0 ≤ m * n) (h1 : m * n ≤ 9223372036854775807) : OpN P own [(true, x, A.u64 m), (true, y, A.u64 n)] (.binOp .mul T x y T2) ty (A.u64 (m * n)) := fun r w a hok _ hn => by
  obtain ⟨hx, hy⟩ := intU2 hn
  simp only [exec, execOp, hx, hy, eqGuard, binOp, Op.intArith, Sem.run_bind, Sem.run_pure]
  simp [wrap_u64 h0 (by omega)]
  exact Good.here hok rfl
theorem O_gtrU : OpN P own [(true, x, A.u64 m), (true, y, A.u64 n)] (.binOp .gtr T x y T2) ty (A.bool (decide (n < m))) := fun r w a hok _ hn => by
  obtain ⟨hx, hy⟩ := intU2 hn
  simp only [exec, execOp, hx, hy, eqGuard, binOp, Op.intCmp, Sem.run_bind, Sem.run_pure]
  simp
  exact Good.here hok rfl
/-- Of small numbers. -/
theorem O_shrU {q : IntKind} (h0 : 0 ≤ m) (h1 : m ≤ 7) : OpN P own [(true, x, A.u64 m), (true, y, A.val (.int q 32))] (.binOp .shr T x y T2) ty (A.u64 0) := fun r w a hok _ hn => by
  have hx : a.eval x = .int .u64 m := hn (true, x, A.u64 m) (by simp) rfl
  have hy : a.eval y = .int q 32 := hn (true, y, A.val (.int q 32)) (by simp) rfl
  simp only [exec, execOp, hx, hy, eqGuard, binOp, Op.shift, Sem.run_bind, Sem.run_pure]
  have : m = 0 ∨ m = 1 ∨ m = 2 ∨ m = 3 ∨ m = 4 ∨ m = 5 ∨ m = 6 ∨ m = 7 := by omega
  rcases this with rfl | rfl | rfl | rfl | rfl | rfl | rfl | rfl <;> exact Good.here hok rfl
theorem O_andU (h0 : 0 ≤ m) (h1 : m ≤ 7) : OpN P own [(true, x, A.u64 m), (true, y, A.u64 4294967295)] (.binOp .and T x y T2) ty (A.u64 m) := fun r w a hok _ hn => by
  obtain ⟨hx, hy⟩ := intU2 hn
  simp only [exec, execOp, hx, hy, eqGuard, binOp, Op.intBits, Sem.run_bind, Sem.run_pure]
  have : m = 0 ∨ m = 1 ∨ m = 2 ∨ m = 3 ∨ m = 4 ∨ m = 5 ∨ m = 6 ∨ m = 7 := by omega
  rcases this with rfl | rfl | rfl | rfl | rfl | rfl | rfl | rfl <;> exact Good.here hok rfl
theorem O_min {tt : Array TypeId} : OpN P own [(true, x, A.int m), (true, y, A.int n)] (.call { callee := .builtin .min, args := #[x, y], argTypes := tt }) ty (A.int (if n < m then n else m)) := fun r w a hok _ hn => by
  obtain ⟨hx, hy⟩ := int2 hn
  simp only [exec, execOp, resolve, Sem.run_bind, Sem.run_pure, Result.andThen_ok, invoke, builtin]
  simp only [List.map_toArray, List.map_cons, List.map_nil, hx, hy]
  simp [Builtin.min_, Builtin.min2]; exact Good.here hok rfl
theorem O_max {tt : Array TypeId} : OpN P own [(true, x, A.int m), (true, y, A.int n)] (.call { callee := .builtin .max, args := #[x, y], argTypes := tt }) ty (A.int (if m < n then n else m)) := fun r w a hok _ hn => by
  obtain ⟨hx, hy⟩ := int2 hn
  simp only [exec, execOp, resolve, Sem.run_bind, Sem.run_pure, Result.andThen_ok, invoke, builtin]
  simp only [List.map_toArray, List.map_cons, List.map_nil, hx, hy]
  simp [Builtin.max_, Builtin.max2]; exact Good.here hok rfl
theorem O_indexat {k e : Nat} {l : List A} {t : A} (h : TAr P T k e 1) (he : TA P e) (hb : 0 ≤ m ∧ m < k) (ht : l[m.toNat]? = some t) :
    OpN P own [(true, x, A.agg l), (true, y, A.int m)] (.index T x y) ty t := fun r w a hok _ hn => by
  obtain ⟨vs, hx, hl⟩ := hn (true, x, A.agg l) (by simp) rfl
  have hx : a.eval x = .agg vs := hx
  have hy : a.eval y = .int .i64 m := hn (true, y, A.int m) (by simp) rfl
  obtain ⟨v, hv, hp⟩ := hl.get _ t ht
  have : (exec a (.index T x y) ty).run P w = .ok (.value v) w := by
    simp only [exec, execOp, hx, hy, Sem.run_bind, Instr.index, asIntOf, Sem.run_pure, Result.andThen_ok, run_underlying h.1, if_pos hb, run_sizeOf h.2]
    rw [run_part_atom he (v := v) (by simpa using hv)]
    rfl
  rw [this]
  exact Good.here hok hp
/-- A part of a slice as it lies. -/
theorem O_slicev_l {b o n cap e k : Nat} (h : TS P T e k) (hb : 0 ≤ m ∧ m < cap ∧ m ≤ n) : OpN P own [(true, x, A.val (.slice (some ⟨b, o, none⟩) n cap)), (true, y, A.int m)] (.slice T x (some y) none none) ty (A.val (.slice (some ⟨b, o + m.toNat * k, none⟩) (n - m.toNat) (cap - m.toNat))) := fun r w a hok _ hn => by
  have hx : a.eval x = .slice (some ⟨b, o, none⟩) n cap := hn (true, x, A.val (.slice (some ⟨b, o, none⟩) n cap)) (by simp) rfl
  have hy : a.eval y = .int .i64 m := hn (true, y, A.int m) (by simp) rfl
  have hr := run_slice_l (P := P) (w := w) T (some ⟨b, o, none⟩) n cap h.elem .i64 m hb.1 (by omega)
  have hz : sizeAt P (P.elem T) = some k := by rw [h.elem_eq]; exact h.2
  simp only [exec, execOp, hx, hy, Sem.run_bind, Option.map_some, Option.map_none, run_sliceAt_slice (P := P) w T _ _ _ _ h.elem, hr, run_sizeOf hz, Result.andThen_ok, Sem.run_pure]
  refine Good.here hok ?_
  show sliced _ _ _ _ _ = _
  have : ¬ cap = m.toNat := by omega
  simp [sliced, add_off, this]
theorem O_slicev_h {p : Option Addr} {n cap e k : Nat} (h : TS P T e k) (hb : 0 < m ∧ m ≤ cap) : OpN P own [(true, x, A.val (.slice p n cap)), (true, y, A.int m)] (.slice T x none (some y) none) ty (A.val (.slice p m.toNat cap)) := fun r w a hok _ hn => by
  have hx : a.eval x = .slice p n cap := hn (true, x, A.val (.slice p n cap)) (by simp) rfl
  have hy : a.eval y = .int .i64 m := hn (true, y, A.int m) (by simp) rfl
  have hr := run_slice_h (P := P) (w := w) T p n cap h.elem .i64 m (by omega) (by omega)
  have hz : sizeAt P (P.elem T) = some k := by rw [h.elem_eq]; exact h.2
  simp only [exec, execOp, hx, hy, Sem.run_bind, Option.map_some, Option.map_none, run_sliceAt_slice (P := P) w T _ _ _ _ h.elem, hr, run_sizeOf hz, Result.andThen_ok, Sem.run_pure]
  refine Good.here hok ?_
  show sliced _ _ _ _ _ = _
  cases p <;> simp [sliced, Addr.add]
end
section
variable {E : Env} {g : Ctx} {Q : Exit → Act → World → Prop} {ops : Array Oper} {rest : List Oper}
theorem W_condf {x y : Code} (h : W E y g Q) : W E (.cond (.const (.bool false)) x y) g Q := fun a w k => by
  have e : a.eval (.const (.bool false)) = .bool false := rfl
  exact wpIn_cond_split e (fun q => by cases q) (fun _ => h a w k)
/-- What a copy takes from its source. -/
def CopyFrom (P : Program) (b tb : Nat) (cells : List A) (m k : Nat) (u : A) (q : Nat) (l : List A) : Prop :=
  ∀ (r : Rho) (w : World) (v : Value), r.ok w → OwnAt r w b tb cells → u.p r v → ∃ p n c vs, v = .slice p n c ∧ Nat.min n m = q ∧ vs.length = q * k ∧ All2 r l vs ∧ (vs = [] ∨ ∃ ad, p = some ad ∧ ∀ (j : Nat) y, vs[j]? = some y → w.cell? (ad.add j) = some y)
theorem WL_copy (i : Nat) (q : Nat) (l : List A) {d dT sT ty : Nat} {x y : Operand} {pos : String} {aft : Array Edge} {b tb o m c e k : Nat} {cells : List A} {u : A} (hT : TS E.P dT e k) (hi : g.own[i]? = some (b, tb, cells))
    (hr : Reads g.sl true [(true, x, A.val (.slice (some ⟨b, o, none⟩) m c)), (true, y, u)]) (hc : CopyFrom E.P b tb cells m k u q l) (h1 : AllOne l) (hll : l.length = q * k) (hle : o + q * k ≤ cells.length) (hd : Nat.ble (d + 1) E.n = true)
    (h : WL E ops rest { g with sl := (d, true, A.int q) :: g.sl, own := g.own.set i (b, tb, over cells o l) } Q) :
    WL E ops (⟨some d, .call { callee := .builtin .copy, args := #[x, y], argTypes := #[dT, sT] }, ty, pos, aft, none⟩ :: rest) g Q := by
  intro a w ⟨k1, k2, r, H⟩
  have hu := hr.use rfl H.slots
  have hx : a.eval x = .slice (some ⟨b, o, none⟩) m c := hu (true, x, A.val (.slice (some ⟨b, o, none⟩) m c)) (by simp) rfl
  have hy : u.p r (a.eval y) := hu (true, y, u) (by simp) rfl
  have hown := H.own _ (List.mem_of_getElem? hi)
  obtain ⟨p, n, cp, vs, e1, e2, e3, e4, e5⟩ := hc r w _ H.ok hown hy
  obtain ⟨ho, cs, hb, hv⟩ := hown
  have hl2 := hv.length
  have hl4 := e4.length
  have hsz : (sizeOf e).run E.P w = .ok k w := run_sizeOf hT.2
  have hfirst : (Builtin.firstCells k q (.slice p n cp)).run E.P w = .ok vs.toArray w := by
    cases p with
    | none =>
      rcases e5 with rfl | ⟨ad, e, _⟩
      · simp [Builtin.firstCells]
      · cases e
    | some ad =>
      have hcell : ∀ (j : Nat) y, vs[j]? = some y → w.cell? (ad.add j) = some y := by
        rcases e5 with rfl | ⟨ad', e, h⟩
        · intro j y hj; simp at hj
        · cases e; exact h
      have := run_loadCells_list (P := E.P) w ad vs hcell
      rw [e3] at this
      simpa [Builtin.firstCells] using this
  have hsize : cells.length = cs.size := by simpa using hl2
  have hfit : o + 0 + vs.length ≤ cs.size := by omega
  have hstore := run_storeCells (P := E.P) (off := o) vs 0 cs w hb hfit (AllOne.all h1 e4)
  simp only [Nat.add_zero] at hstore
  have hrun : (execOp a.eval ⟨some d, .call { callee := .builtin .copy, args := #[x, y], argTypes := #[dT, sT] }, ty, pos, aft, none⟩).run E.P w = .ok (.value (.int .i64 q)) (w.putObj b (.cells (over cs.toList o vs).toArray tb (0, 0))) := by
    simp only [execOp, resolve, invoke, builtin, Sem.run_bind, Sem.run_pure, Result.andThen_ok, List.map_toArray, List.map_cons, List.map_nil, hx, e1]
    simp [Builtin.copy_, run_underlying hT.under, Builtin.lenOf, hsz, e2, hfirst, hstore, goInt]
  refine wpListIn_value rfl (by simp) (fun _ => trivial) hrun (h _ _ ⟨by rw [size_put]; exact k1, ?_, r, ?_⟩)
  · rw [defers_put]; exact k2.putOwn (fun ds e => by rw [hb] at e; cases e)
  · have hlt : d < a.tmps.size := by rw [k1]; exact Nat.le_of_ble_eq_true hd
    have H' := H.putOwn hi (cells' := over cells o l) (cs := (over cs.toList o vs).toArray) (by
      have := hv.over (o := o) e4 (by show o + l.length ≤ cells.length; omega)
      simpa using this)
    exact { H' with slots := Slots.put H'.slots hlt (fun _ => rfl) (fun hc => by cases hc) }
theorem CopyFrom.sl {P : Program} {b tb m k : Nat} {cells : List A} {S : Type} {f : S → List A} {L : List S} {q : Nat} (hk : ∀ y, (f y).length = k) (hq : Nat.min L.length m = q) : CopyFrom P b tb cells m k (A.sl k f L) q ((L.take q).flatMap f) := fun r w v hok _ hv => by
  obtain ⟨ad, n, c, e, h1, h2, h3, h4⟩ := hv
  have hlen : ((L.take q).flatMap f).length = q * k := by
    rw [flat_length (fun y _ => hk y)]
    congr 1; rw [List.length_take]; have := hq; simp only [Nat.min_def] at this; split at this <;> omega
  by_cases hL : L = []
  · subst hL
    have : q = 0 := by rw [← hq]; simp
    subst this
    exact ⟨ad, n, c, [], e, by rw [h1]; simp, by simp, by simp [All2], .inl rfl⟩
  · obtain ⟨b', o', rfl, hc⟩ := h4 hL
    have hall : A.CellsAt r b' o' ((L.take q).flatMap f) := flat_of_rows (fun y _ => hk y) (fun i y hy => hc i y (by
      rw [List.getElem?_take] at hy; split at hy
      · exact hy
      · cases hy))
    obtain ⟨vs, q3, q2⟩ := exists_cells ((L.take q).flatMap f) 0 (fun i c hi => by
      obtain ⟨x, hx, hp⟩ := hall i c hi
      exact ⟨x, by simpa using hx, hp⟩)
    refine ⟨_, n, c, vs, e, by rw [h1]; exact hq, by rw [← hlen]; exact q3.length.symm, ?_, .inr ⟨_, rfl, fun j y hj => ?_⟩⟩
    · exact q3
    · rw [add_off]
      have := q2 j y hj
      rw [Nat.zero_add] at this
      exact hok.cell this
theorem CopyFrom.own {P : Program} {b tb m k n c q : Nat} {cells : List A} (hq : Nat.min n m = q) (hle : q * k ≤ cells.length) : CopyFrom P b tb cells m k (A.val (.slice (some ⟨b, 0, none⟩) n c)) q (cells.take (q * k)) := fun r w v hok ho hv => by
  obtain ⟨h1, cs, h2, h3⟩ := ho
  have hl := h3.length
  refine ⟨_, n, c, cs.toList.take (q * k), hv, hq, by rw [List.length_take]; omega, ?_, .inr ⟨_, rfl, fun j y hj => ?_⟩⟩
  · refine All2.of_get (by simp [hl]) fun i t v ht hv => ?_
    rw [List.getElem?_take] at ht hv
    split at ht
    · rename_i hi
      rw [if_pos hi] at hv
      obtain ⟨v', e', hp⟩ := h3.get _ _ ht
      rw [hv] at e'; cases e'; exact hp
    · cases ht
  · rw [add_off, Nat.zero_add]
    rw [List.getElem?_take] at hj
    split at hj
    · have hj' : cs[j]? = some y := by simpa using hj
      simp [World.cell?, h2, hj']
    · cases hj
end
end Go.L
/-! Rounds with two values. -/
namespace Go.L
open Go Go.RowKit
section
variable {E : Env} {g : Ctx} {ps : Array Tmp} {as bd : Code}
theorem WL_yield2 {S : RS E g ps as bd} {n : Nat} {g1 : Ctx} {ops : Array Oper} {rest : List Oper} {Q1 : Exit → Act → World → Prop} {d p q : Nat} {yl x y : Operand} {t u : A} {tt : Array TypeId} {ty : TypeId} {pos : String} {aft : Array Edge}
    (hps : ps = #[p, q]) (hp : Nat.ble (p + 1) E.n = true) (hq : Nat.ble (q + 1) E.n = true) (hobj : g1.objs = S.objs .ready none) (hcp : S.r ∈ g1.cps) (hr : Reads g1.sl true [(true, yl, A.val (.func (.yield S.l) #[] #[])), (true, x, t), (true, y, u)])
    (h : ∀ a1 r1, AtYield S g1 n a1 r1 → W S.E2 as ⟨(q, true, u) :: (p, true, t) :: g.sl, g1.own, g1.rooms, g1.maps, S.objs .ready none, r1 :: g1.cps⟩ (AssignQ S a1 d ops rest Q1)) :
    WL (S.E1 n) ops (⟨some d, .call { callee := .value yl, args := #[x, y], argTypes := tt }, ty, pos, aft, none⟩ :: rest) g1 Q1 := by
  intro a w ⟨h1, h2, r, H⟩
  have hu := hr.use rfl H.slots
  have hyl : a.eval yl = .func (.yield S.l) #[] #[] := hu (true, yl, A.val (.func (.yield S.l) #[] #[])) (by simp) rfl
  have hx : t.p r (a.eval x) := hu (true, x, t) (by simp) rfl
  have hy : u.p r (a.eval y) := hu (true, y, u) (by simp) rfl
  have hrec : w.heap[S.l]? = some (.loop (S.rcd .ready none)) := (H.mp.obj (S.l, _) (by rw [hobj]; exact List.mem_cons_self ..)).1
  have hrun : (execOp a.eval ⟨some d, .call { callee := .value yl, args := #[x, y], argTypes := tt }, ty, pos, aft, none⟩).run E.P w = .ok (.round S.l S.fnid ((S.a.tmps.setIfInBounds p (a.eval x)).setIfInBounds q (a.eval y)) as bd) w := by
    simp only [execOp, resolve, hyl, Sem.run_bind, Deferred.ofValue, Sem.run_pure, Result.andThen_ok, invoke]
    have := run_yield (P := E.P) hrec (args := (#[x, y].map a.eval) ++ #[]) (by simp [RS.rcd, hps])
    simpa [RS.rcd, hps] using this
  have hat : AtYield S g1 n a r := ⟨h1, marks_plain rfl h2, H.slots⟩
  refine wpListIn_plain rfl fun K hK => ?_
  refine ⟨fun f _ => trivial, ?_⟩
  rw [Oper.semAt_eq _ _ _ (by simp)]
  show Oper.uponIn (fz none) 9 E.P _ a K Q1 ((execOp a.eval _).run E.P w)
  rw [hrun, Oper.uponIn_round]
  refine ⟨fun h => (by cases h), roundIn_n (n := 9) (roundIn_of_wpIn trivial ?_)⟩
  have hW := h a r hat { tmps := (S.a.tmps.setIfInBounds p (a.eval x)).setIfInBounds q (a.eval y), defers := [] } w ⟨by simp [RS.E2, S.size], trivial, r, ?_⟩
  · refine wpIn_mono hW ?_
    intro e a₁ w₁ k
    cases e with
    | normal =>
      obtain ⟨w₂, k1, k2⟩ := k
      refine ⟨w₂, k1, wpIn_mono k2 ?_⟩
      have hR : ∀ e w, RoundQ S a d ops rest Q1 e w → (match e with
        | .returned v => K (a.put (some d) v) w
        | .panicked chain => Q1 (.panic chain) a w
        | .outgrown => LetsOut Q1) := by
        intro e w hq
        cases e with
        | returned v => exact hK _ _ hq
        | panicked chain => exact hq
        | outgrown => exact hq
      intro e a₂ w₃ q
      cases e with
      | normal => obtain ⟨v, w', q1, q2⟩ := q; exact ⟨v, w', q1, hR _ _ q2⟩
      | ret => obtain ⟨v, w', q1, q2⟩ := q; exact ⟨v, w', q1, hR _ _ q2⟩
      | exit id => obtain ⟨v, w', q1, q2⟩ := q; exact ⟨v, w', q1, hR _ _ q2⟩
      | goto t => obtain ⟨v, w', q1, q2⟩ := q; exact ⟨v, w', q1, hR _ _ q2⟩
      | panic chain => exact q.elim
      | outgrown => exact q.elim
    | _ => exact k.elim
  · refine H.env rfl rfl rfl rfl rfl rfl rfl hobj.symm (fun c hc => (List.mem_cons.1 hc).elim (fun e => e ▸ r.le_refl) (H.cps c)) ?_
    have hlt : p < S.a.tmps.size := by rw [S.size]; exact Nat.le_of_ble_eq_true hp
    have hlq : q < (S.a.tmps.setIfInBounds p (a.eval x)).size := by simp only [Array.size_setIfInBounds]; rw [S.size]; exact Nat.le_of_ble_eq_true hq
    have s1 := Slots.put (a := { tmps := S.a.tmps, defers := [] }) (Slots.mono (fun s c y e => S.slots s c y e) (H.cps _ hcp)) hlt (c := true) (t := t) (v := a.eval x) (fun _ => hx) (fun hc => by cases hc)
    exact Slots.put (a := { tmps := S.a.tmps.setIfInBounds p (a.eval x), defers := [] }) s1 hlq (fun _ => hy) (fun hc => by cases hc)
end
end Go.L
/-! Differences that may wrap; quotients of any number. -/
namespace Go.L
open Go Go.RowKit
theorem tdiv_in {m n : Int} (h : inI m) (hn : 0 < n) : inI (m.tdiv n) := by
  obtain ⟨h1, h2⟩ := h
  rcases Int.lt_or_le m 0 with q | q
  · have e : m.tdiv n = -((-m) / n) := by
      rw [← Int.tdiv_eq_ediv_of_nonneg (by omega), Int.neg_tdiv, Int.neg_neg]
    have h3 : 0 ≤ (-m) / n := Int.ediv_nonneg (by omega) (by omega)
    have h4 : (-m) / n ≤ -m := Int.ediv_le_self _ (by omega)
    rw [e]; exact ⟨by omega, by omega⟩
  · rw [Int.tdiv_eq_ediv_of_nonneg q]
    have h3 : 0 ≤ m / n := Int.ediv_nonneg q (by omega)
    have h4 : m / n ≤ m := Int.ediv_le_self _ q
    exact ⟨by omega, by omega⟩
section
variable {P : Program} {own : OC} {ty T T2 : TypeId} {x y : Operand} {m n : Int}
theorem O_subw : OpN P own [(true, x, A.int m), (true, y, A.int n)] (.binOp .sub T x y T2) ty (A.int (IntKind.i64.wrap (m - n))) := fun r w a hok _ hn => by
  obtain ⟨hx, hy⟩ := int2 hn
  simp only [exec, execOp, hx, hy, eqGuard, binOp, Op.intArith, Sem.run_bind, Sem.run_pure]
  simp
  exact Good.here hok rfl
theorem O_quot (hn0 : 0 < n) (hi : inI m) : OpN P own [(true, x, A.int m), (true, y, A.int n)] (.binOp .quo T x y T2) ty (A.int (m.tdiv n)) := fun r w a hok _ hn => by
  obtain ⟨hx, hy⟩ := int2 hn
  have h0 : ¬ n = 0 := by omega
  simp only [exec, execOp, hx, hy, eqGuard, binOp, Op.intDiv, Sem.run_bind, Sem.run_pure]
  simp [h0, wrap_in (tdiv_in hi hn0)]
  exact Good.here hok rfl
end
end Go.L
namespace Go.L
open Go
theorem tdiv2_in {m : Int} (h : inI m) : -4611686018427387904 ≤ m.tdiv 2 ∧ m.tdiv 2 ≤ 4611686018427387903 := by
  obtain ⟨h1, h2⟩ := h
  rcases Int.lt_or_le m 0 with q | q
  · have e : m.tdiv 2 = -((-m) / 2) := by
      rw [← Int.tdiv_eq_ediv_of_nonneg (by omega), Int.neg_tdiv, Int.neg_neg]
    omega
  · rw [Int.tdiv_eq_ediv_of_nonneg q]; omega
end Go.L
/-! Regions that draw their order, with variables made among the reads, and with reads of slots alone that may come late. -/
namespace Go.L
open Go Go.RowKit
def isLate : Oper → Bool
  | ⟨some _, .move (.tmp _), _, _, _, none⟩ => true
  | ⟨some _, .extract (.tmp _) _, _, _, _, none⟩ => true
  | _ => false
def edgeSet (l : List Oper) (o : Oper) : Array Bool := ((List.range l.length).map fun j => (edgesOf o).contains j).toArray
def lateOk2 (l : List Oper) (m : Nat) (late : List Nat) : Bool :=
  Region.noSelect l.toArray && late.all fun i => Nat.blt i m && (match l[i]? with | some o => isLate o && Region.free .any l.toArray (edgeSet l o) i | none => false)
theorem lateOk2_lt {l : List Oper} {m : Nat} {late : List Nat} (h : lateOk2 l m late = true) : ∀ i ∈ late, i < m := fun i hi => by
  unfold lateOk2 at h
  simp only [Bool.and_eq_true, List.all_eq_true] at h
  exact Nat.le_of_ble_eq_true (h.2 i hi).1
theorem lateOk2_at {l : List Oper} {m : Nat} {late : List Nat} (h : lateOk2 l m late = true) {i : Nat} (hi : i ∈ late) {o : Oper} (ho : l[i]? = some o) :
    isLate o = true ∧ Region.free .any l.toArray (edgeSet l o) i = true ∧ Region.noSelect l.toArray = true := by
  unfold lateOk2 at h
  simp only [Bool.and_eq_true, List.all_eq_true] at h
  have := (h.2 i hi).2
  rw [ho] at this
  simp only [Bool.and_eq_true] at this
  exact ⟨this.1, this.2, h.1⟩
theorem isLate_guard {o : Oper} (h : isLate o = true) : o.guard = none := by
  unfold isLate at h
  split at h
  · rfl
  · rfl
  · cases h
theorem free_mono {l : List Oper} {i : Nat} {o : Oper} {S : Array Bool} (h : Region.free .any l.toArray (edgeSet l o) i = true) (hS : ∀ j ∈ edgesOf o, S.getD j false = true) : Region.free .any l.toArray S i = true := by
  unfold Region.free at *
  split
  · rename_i e; rw [e] at h; cases h
  · rename_i oi e
    rw [e] at h
    rw [List.all_eq_true] at h ⊢
    intro j hj
    have := h j hj
    simp only [Bool.or_eq_true] at this ⊢
    rcases this with (q | q) | q
    · exact .inl (.inl q)
    · refine .inl (.inr ?_)
      have hjl : j < l.length := by simpa using hj
      have hc : j ∈ edgesOf o := by
        unfold edgeSet at q
        simpa [Array.getD, hjl] using q
      have := hS j hc
      by_cases hb : j < S.size
      · simpa [Array.getD, hb] using this
      · simp [Array.getD, hb]
    · exact .inr q
theorem late_yields {P : Program} {o : Oper} (h : isLate o = true) {a : Act} {w : World} {K : Act → World → Prop} {Q : Exit → Act → World → Prop} {ro : Option Nat} (st : o.wpIn (fz ro) 9 P a w K (NoPanic Q)) :
    ∃ v, (∀ w, (execOp a.eval o).run P w = .ok (.value v) w) ∧ K (a.put o.dst v) w ∧ ∀ w, o.about P w a.eval = none := by
  unfold isLate at h
  split at h
  · rename_i d s _ _ _
    refine ⟨a.eval (.tmp s), fun w => by simp [execOp], ?_, fun w => by simp [Oper.about]⟩
    unfold Oper.wpIn at st
    have st := st.2
    rw [Oper.semAt_eq _ _ _ (by simp)] at st
    simp only [execOp, Sem.run_pure, Oper.uponIn] at st
    exact st
  · rename_i d s j _ _ _
    unfold Oper.wpIn at st
    have st := st.2
    rw [Oper.semAt_eq _ _ _ (by simp)] at st
    cases hx : a.eval (.tmp s) with
    | tuple vs =>
      cases hv : vs[j]? with
      | some v =>
        refine ⟨v, fun w => by simp [execOp, hx, hv, Instr.extract], ?_, fun w => by simp [Oper.about]⟩
        simp [execOp, hx, hv, Instr.extract, Oper.uponIn] at st
        exact st
      | none => exact absurd st (by simp [execOp, hx, hv, Instr.extract, Oper.uponIn, stuck])
    | _ => exact absurd st (by simp [execOp, hx, Instr.extract, Oper.uponIn, stuck])
  · cases h
theorem W_drawAL {E : Env} {g : Ctx} {Q : Exit → Act → World → Prop} {id : Nat} {l : List Oper} (m : Nat) (late : List Nat) (hmix : E.P.follows .mixedOrders = true) (hm : Nat.ble m l.length = true) (hok : drawOkL l m late = true) (hlate : lateOk2 l m late = true) (hro : E.rnd = none)
    (h : ChainA E l.toArray g.oc 0 (l.take m) g.sl [] fun av al => AlK al { g with sl := av } fun g' => WL E l.toArray (l.drop m) g' (NoPanic Q)) : W E (.region id l.toArray true) g Q := by
  have hm := Nat.le_of_ble_eq_true hm
  have D := drawOkL_spec hok
  have hlm := lateOk2_lt hlate
  obtain ⟨fs, as, hfl, hK, hst, hri, hai, hnd⟩ := h.split
  rw [List.append_nil] at hK
  have hfl : fs.length = m := by rw [hfl]; simp [hm]
  have hstep : ∀ (i : Nat) o f, l[i]? = some o → i < m → fs[i]? = some f → Step1 E l.toArray g.oc ((fs.take i).reverse ++ g.sl) o f ∨ ∃ x ∈ as, x.i = 0 + i ∧ AlStep E o x ∧ f = (x.d, true, anyPtr) := fun i o f ho hi hf => hst i o f (by simp [hi, ho]) hf
  have hdst : ∀ (i : Nat) o f, l[i]? = some o → i < m → fs[i]? = some f → o.dst = some f.1 := fun i o f ho hi hf => (hstep i o f ho hi hf).elim (fun q => q.1) fun ⟨x, _, _, q, e⟩ => by rw [e]; exact q.1
  have getop : ∀ i, i < m → ∃ o f, l[i]? = some o ∧ fs[i]? = some f := fun i hi =>
    ⟨l[i]'(by omega), fs[i]'(by omega), List.getElem?_eq_getElem _, List.getElem?_eq_getElem _⟩
  intro a w k
  refine wpIn_mono (Q := NoPanic Q) (wpIn_region_any hmix ?_) (fun e a w h => by cases e <;> first | exact h | exact h.elim)
  have key : ∀ (u : Nat) (S : Array Bool) (a : Act) (w : World), PStateA E g l as m fs S a w → ((List.range m).filter fun i => !S.getD i false).length = u →
      wpAnyIn (fz E.rnd) 9 E.P .any l.toArray (NoPanic Q) (u + (l.length - m)) S a w := by
    intro u
    induction u with
    | zero =>
      intro S a w p hu
      have hall : ∀ i, i < m → S.getD i false = true := fun i hi => by
        have := List.length_eq_zero_iff.1 hu
        have := List.filter_eq_nil_iff.1 this i (List.mem_range.2 hi)
        simpa using this
      have hSi : ∀ i, S.getD i false = decide (i < m) := fun i => by
        rcases Nat.lt_or_ge i m with q | q
        · rw [hall i q]; simp [q]
        · rw [p.tail i q]; simp; omega
      rw [Nat.zero_add]
      refine tail_anyL D hlm _ m S a w (by omega) (Nat.le_refl _) p.size hSi ?_
      obtain ⟨r, blk, H, hbk, hg, hf⟩ := p.at_
      have hasS : ∀ x ∈ as, S.getD x.i false = true := fun x hx => by have := hri x hx; simp [hm] at this; exact hall _ (by omega)
      have hfil : ownAl as S blk = as.map fun x => (blk x.i, x.T, x.zs.map A.val) := by
        unfold ownAl; rw [List.filter_eq_self.2 hasS]
      rw [hfil] at H
      have H1 := H.reown (own' := (as.map fun x => (blk x.i, x.T, x.zs.map A.val)).reverse ++ g.own) (fun x hx => by simpa using hx) (by
        have := H.nodup
        rw [List.map_append] at this ⊢
        rw [List.nodup_append] at this ⊢
        refine ⟨?_, this.2.1, fun a ha => this.2.2 a (by simpa using ha)⟩
        exact (List.Perm.nodup_iff ((List.reverse_perm _).map _)).2 this.1)
      obtain ⟨sl', own', q1, e1, e2⟩ := hK.get blk
      subst e1; subst e2
      refine q1 a w ⟨p.tmps, p.defers, r, { H1 with slots := ?_ }⟩
      intro s c x e
      rcases look_append e with q | ⟨e, _⟩
      · obtain ⟨y, hy, ey⟩ := List.mem_map.1 (List.mem_reverse.1 q)
        cases ey
        exact ⟨fun _ => hbk y hy (hasS y hy), fun k => by cases k⟩
      rcases look_append e with q | ⟨q1, q2⟩
      · obtain ⟨i, hi, he⟩ := List.getElem_of_mem (List.mem_reverse.1 q)
        exact hf i (s, c, x) (by rw [List.getElem?_eq_getElem hi, he]) (hall i (by omega))
      · exact hg s c x q1 (fun f hf => q2 f (List.mem_reverse.2 hf))
    | succ u ih =>
      intro S a w p hu
      rw [show u + 1 + (l.length - m) = (u + (l.length - m)) + 1 from by omega]
      have hex : ∃ i, i < m ∧ S.getD i false = false := by
        have hne : ((List.range m).filter fun i => !S.getD i false) ≠ [] := fun e => by rw [e] at hu; simp at hu
        obtain ⟨i, hi⟩ := List.exists_mem_of_ne_nil _ hne
        obtain ⟨h1, h2⟩ := List.mem_filter.1 hi
        exact ⟨i, List.mem_range.1 h1, by simpa using h2⟩
      obtain ⟨i0, ⟨hi0, hS0⟩, hmin⟩ := least hex
      have hready : i0 ∈ Region.ready .any l.toArray S := by
        have ho : l[i0]? = some (l[i0]'(by omega)) := List.getElem?_eq_getElem _
        refine ready_iff.2 ⟨getD_true_of_false hS0 (by rw [p.size]; omega), _, ho, fun j hj => ?_⟩
        have hlt := D.lt i0 _ ho j hj
        cases hSj : S.getD j false with
        | true => rfl
        | false => have := hmin j ⟨by omega, hSj⟩; omega
      have one : ∀ i, i ∈ Region.ready .any l.toArray S → i < m → wpOpIn (fz E.rnd) 9 E.P l.toArray (NoPanic Q) i (wpAnyIn (fz E.rnd) 9 E.P .any l.toArray (NoPanic Q) (u + (l.length - m)) (S.setIfInBounds i true)) a w := by
       intro i hi him
       obtain ⟨h1, o, ho, hr⟩ := ready_iff.1 hi
       obtain ⟨hSi, hilt⟩ := getD_false_of_true h1
       rw [p.size] at hilt
       obtain ⟨_, f, _, hf⟩ := getop i him
       have hs := hstep i o f ho him hf
       obtain ⟨r, blk, H, hbk, hg, hfacts⟩ := p.at_
       have H0 : HoldsAt E { g with sl := [] } r a w := H.reown (own' := g.own) (fun x hx => by simp [hx]) (by have := H.nodup; rw [List.map_append] at this; exact (List.nodup_append.1 this).2.1)
       have hsl : ∀ s ∈ o.looksAt l.toArray, ∀ c x, look ((fs.take i).reverse ++ g.sl) s = some (c, x) → (c = true → x.p r (a.tmps.getD s undef)) ∧ (c = false → a.tmps.getD s undef = undef) := by
         intro s hsm c x e
         rw [looks_eq] at hsm
         rcases look_append e with q | ⟨q1, q2⟩
         · obtain ⟨j, hj, he⟩ := List.getElem_of_mem (List.mem_reverse.1 q)
           have hj' : j < i := by simp at hj; omega
           have hfj : fs[j]? = some (s, c, x) := by
             rw [← he, List.getElem_take]
             exact List.getElem?_eq_getElem _
           obtain ⟨oj, fj, hoj, hfj'⟩ := getop j (by omega)
           rw [hfj] at hfj'
           cases hfj'
           have hd := hdst j oj _ hoj (by omega) hfj
           have hk := D.look i o ho him s hsm j oj hoj (by omega) hd
           exact hfacts j (s, c, x) hfj (hr j hk.2)
         · refine hg s c x q1 fun f' hf' e' => ?_
           obtain ⟨j, hj, he⟩ := List.getElem_of_mem hf'
           have hfj : fs[j]? = some f' := by rw [List.getElem?_eq_getElem hj, he]
           obtain ⟨oj, fj, hoj, hfj'⟩ := getop j (by omega)
           have hd := hdst j oj f' hoj (by omega) hfj
           rw [e'] at hd
           have hk := D.look i o ho him s hsm j oj hoj (by omega) hd
           refine q2 f' (List.mem_reverse.2 ?_) e'
           exact List.mem_of_getElem? (i := j) (by rw [List.getElem?_take]; simp [hk.1, hfj])
       have hfl' : f.1 < E.n ∧ (f.2.1 = true ∨ f.2.1 = false) := by
         refine ⟨?_, by cases f.2.1 <;> simp⟩
         rcases hs with q | ⟨x, _, _, q, e⟩
         · exact Nat.le_of_ble_eq_true q.2.1
         · rw [e]; exact Nat.le_of_ble_eq_true q.2.1
       have adv : ∀ v s w' blk', Marks E w' a.defers → HoldsAt E { g with sl := [], own := ownAl as (S.setIfInBounds i true) blk' ++ g.own } s (a.put (some f.1) v) w' → r.le s → (f.2.1 = true → f.2.2.p s v) → (f.2.1 = false → v = undef) →
           (∀ x ∈ as, (S.setIfInBounds i true).getD x.i false = true → (a.put (some f.1) v).tmps.getD x.d undef = .pointer (some ⟨blk' x.i, 0, none⟩)) → wpAnyIn (fz E.rnd) 9 E.P .any l.toArray (NoPanic Q) (u + (l.length - m)) (S.setIfInBounds i true) (a.put (some f.1) v) w' := by
         intro v s w' blk' hmk H' hle hv hun hbk'
         refine ih _ _ _ ?_ ?_
         · have hlt : f.1 < a.tmps.size := by rw [p.tmps]; exact hfl'.1
           refine ⟨by simpa using p.size, ?_, ?_, by rw [size_put]; exact p.tmps, by rw [defers_put]; exact hmk, s, blk', H', hbk', ?_, ?_⟩
           · intro j hj
             rw [getD_set (by rw [p.size]; omega), p.tail j hj]
             simp; omega
           · intro j oj hoj hSj k' hk'
             rw [getD_set (by rw [p.size]; omega)] at hSj ⊢
             rcases Bool.or_eq_true _ _ ▸ hSj with q | q
             · have : j = i := by simpa using q
               subst this
               rw [ho] at hoj; cases hoj
               rw [hr k' hk']; simp
             · rw [p.closed j oj hoj q k' hk']; simp
           · intro s' c x e hne
             have hk := hg s' c x e hne
             have hne' : f.1 ≠ s' := hne f (List.mem_of_getElem? hf)
             unfold Fact at *
             simp only [getD_put_ne hne']
             exact ⟨fun hc => x.mono hle (hk.1 hc), hk.2⟩
           · intro j f' hfj hSj
             rw [getD_set (by rw [p.size]; omega)] at hSj
             by_cases hji : j = i
             · subst hji
               rw [hf] at hfj; cases hfj
               unfold Fact
               rw [getD_put_same hlt]
               exact ⟨hv, hun⟩
             · have hSj' : S.getD j false = true := by simpa [hji] using hSj
               have hk := hfacts j f' hfj hSj'
               have hjm : j < m := by rw [← hfl]; exact (List.getElem?_eq_some_iff.1 hfj).1
               obtain ⟨oj, _, hoj, _⟩ := getop j hjm
               have hne' : f.1 ≠ f'.1 := fun e' => D.dst i o ho him j oj hoj hjm hji (by rw [hdst j oj f' hoj hjm hfj, hdst i o f ho him hf, e'])
               unfold Fact at *
               simp only [getD_put_ne hne']
               exact ⟨fun hc => f'.2.2.mono hle (hk.1 hc), hk.2⟩
         · have hfil : ((List.range m).filter fun j => !(S.setIfInBounds i true).getD j false) = ((List.range m).filter fun j => !S.getD j false).erase i := by
             rw [List.Nodup.erase_eq_filter (List.Nodup.sublist List.filter_sublist List.nodup_range), List.filter_filter]
             refine List.filter_congr fun j _ => ?_
             rw [getD_set (by rw [p.size]; omega)]
             by_cases hji : j = i <;> simp [hji]
           rw [hfil, List.length_erase_of_mem (List.mem_filter.2 ⟨List.mem_range.2 him, by simp [hSi]⟩), hu]
           rfl
       have hfd : ∀ x ∈ as, x.i ≠ i → f.1 ≠ x.d := fun x hx hne e' => by
         obtain ⟨o', q1, q2, q3⟩ := hai x hx
         have hxi := hri x hx
         simp [hm] at hxi
         rw [Nat.sub_zero, List.getElem?_take, if_pos hxi] at q1
         exact D.dst i o ho him x.i o' q1 hxi hne (by rw [hdst i o f ho him hf, q2.1, e'])
       unfold wpOpIn
       simp only [List.getElem?_toArray, ho]
       by_cases hx : ∃ x ∈ as, x.i = i
       · obtain ⟨x, hx, hxi⟩ := hx
         obtain ⟨o', q1, q2, q3⟩ := hai x hx
         rw [Nat.sub_zero, hxi, List.getElem?_take, if_pos him, ho] at q1
         cases q1
         rw [Nat.sub_zero, hxi, hf] at q3
         cases q3
         obtain ⟨a1, a2, a3, a4, a5⟩ := q2
         obtain ⟨z, hzc, hzr⟩ := a5.run
         have hw : Region.wanted o (yielded l.toArray a.tmps) = true := by simp [Region.wanted, a3]
         rw [if_pos hw]
         have hrun : (execOp a.eval o).run E.P w = .ok (.value (.pointer (some ⟨w.heap.size, 0, none⟩))) (w.alloc (.cells z.cells x.T)) := by
           simp [execOp, a4, Instr.alloc, hzr, run_newVar]
         unfold Oper.wpIn
         refine ⟨fun f _ => trivial, ?_⟩
         rw [Oper.semAt_eq _ _ _ (by rw [a4]; simp), hrun]
         simp only [Oper.uponIn, a1]
         have gr : Grow r w r (w.alloc (.cells z.cells x.T)) := Grow.same H.ok ((Below.refl _ _).alloc (Nat.le_refl _) _)
         have H' := H.allocOwn z.cells x.T (cells := x.zs.map A.val) (by rw [hzc]; exact All2.vals x.zs)
         have asnd : as.Nodup := List.Pairwise.of_map _ (fun a b h e => h (by rw [e])) hnd
         have same : ∀ y ∈ as, y.i = i → y = x := fun y hy e => by
           obtain ⟨j1, h1, e1⟩ := List.getElem_of_mem hy
           obtain ⟨j2, h2, e2⟩ := List.getElem_of_mem hx
           have : j1 = j2 := (List.getElem?_inj (by simpa using h1) hnd).1 (by rw [List.getElem?_map, List.getElem?_map, List.getElem?_eq_getElem h1, List.getElem?_eq_getElem h2, e1, e2]; simp [e, hxi])
           subst this; rw [← e1, e2]
         let blk' : Nat → Nat := fun j => if j = i then w.heap.size else blk j
         have hperm : (ownAl as (S.setIfInBounds i true) blk').Perm ((w.heap.size, x.T, x.zs.map A.val) :: ownAl as S blk) := by
           have p1 : (as.filter fun y => (S.setIfInBounds i true).getD y.i false).Perm (x :: as.filter fun y => S.getD y.i false) := by
             refine (List.perm_ext_iff_of_nodup (asnd.sublist List.filter_sublist) ?_).2 fun y => ?_
             · rw [List.nodup_cons]
               exact ⟨fun hm => (by have := (List.mem_filter.1 hm).2; rw [hxi, hSi] at this; cases this), asnd.sublist List.filter_sublist⟩
             · rw [List.mem_filter, List.mem_cons, List.mem_filter, getD_set (by rw [p.size]; omega)]
               constructor
               · intro ⟨h1, h2⟩
                 by_cases hyi : y.i = i
                 · exact .inl (same y h1 hyi)
                 · exact .inr ⟨h1, by simpa [hyi] using h2⟩
               · rintro (rfl | ⟨h1, h2⟩)
                 · exact ⟨hx, by simp [hxi]⟩
                 · exact ⟨h1, by simp only [h2, Bool.or_true]⟩
           have p2 := p1.map fun y => (blk' y.i, y.T, y.zs.map A.val)
           unfold ownAl
           refine p2.trans (List.Perm.of_eq ?_)
           rw [List.map_cons]
           congr 1
           · simp [blk', hxi]
           · refine List.map_congr_left fun y hy => ?_
             have hyi : y.i ≠ i := fun e => by have := (List.mem_filter.1 hy).2; rw [e, hSi] at this; cases this
             simp [blk', hyi]
         have H2 := H'.reown (own' := ownAl as (S.setIfInBounds i true) blk' ++ g.own) (fun y hy => by
           rcases List.mem_append.1 hy with hy | hy
           · rcases List.mem_cons.1 (hperm.mem_iff.1 hy) with h | h <;> simp [h]
           · simp [hy]) (by
           have hn := H'.nodup
           have := (hperm.append_right g.own).map (·.1)
           exact (this.nodup_iff).2 (by simpa using hn))
         refine adv _ r _ blk' (p.defers.grow H gr) { H2 with slots := fun _ _ _ e => by cases e } r.le_refl (fun _ => ⟨_, rfl⟩) (fun k => by cases k) fun y hy hSy => ?_
         have hlt : x.d < a.tmps.size := by rw [p.tmps]; exact Nat.le_of_ble_eq_true a2
         by_cases hyi : y.i = i
         · rw [same y hy hyi]
           show (a.put (some x.d) _).tmps.getD x.d undef = _
           rw [getD_put_same hlt]
           simp [blk', hxi]
         · rw [getD_put_ne (hfd y hy hyi)]
           rw [getD_set (by rw [p.size]; omega)] at hSy
           rw [hbk y hy (by simpa [hyi] using hSy)]
           simp [blk', hyi]
       · have hs : Step1 E l.toArray g.oc ((fs.take i).reverse ++ g.sl) o f := hs.elim (fun q => q) fun ⟨x, h1, h2, _⟩ => absurd ⟨x, h1, by omega⟩ hx
         have hown : ownAl as (S.setIfInBounds i true) blk = ownAl as S blk := by
           unfold ownAl
           congr 1
           refine List.filter_congr fun y hy => ?_
           rw [getD_set (by rw [p.size]; omega)]
           simp [show y.i ≠ i from fun e => hx ⟨y, hy, e⟩]
         have step := step_sem (Q := NoPanic Q) hs H.ok H0.oc p.tmps hsl (K := wpAnyIn (fz E.rnd) 9 E.P .any l.toArray (NoPanic Q) (u + (l.length - m)) (S.setIfInBounds i true)) (fun v s w' gr hv hun => by
           refine adv v s w' blk (p.defers.grow H gr) (by rw [hown]; exact H.grow gr (fun _ _ _ e => by cases e)) gr.le hv hun fun y hy hSy => ?_
           have hyi : y.i ≠ i := fun e => hx ⟨y, hy, e⟩
           rw [getD_put_ne (hfd y hy hyi)]
           rw [getD_set (by rw [p.size]; omega)] at hSy
           exact hbk y hy (by simpa [hyi] using hSy))
         split
         · rename_i hw
           rw [if_pos hw] at step
           exact step
         · rename_i hw
           rw [if_neg hw] at step
           exact step
      by_cases hl : ∃ i1 ∈ late, i1 ∈ Region.ready .any l.toArray S
      · obtain ⟨i1, hi1, hr1⟩ := hl
        have him := hlm i1 hi1
        have ho : l[i1]? = some (l[i1]'(by omega)) := List.getElem?_eq_getElem _
        obtain ⟨hs1, hs2, hs3⟩ := lateOk2_at hlate hi1 ho
        have st := one i1 hr1 him
        unfold wpOpIn at st
        simp only [List.getElem?_toArray, ho] at st
        rw [if_pos (show Region.wanted (l[i1]'(by omega)) (yielded l.toArray a.tmps) = true by simp [Region.wanted, isLate_guard hs1])] at st
        obtain ⟨v, q1, q2, q3⟩ := late_yields hs1 st
        have hw : Region.wanted (l[i1]'(by omega)) (yielded l.toArray a.tmps) = true := by simp [Region.wanted, isLate_guard hs1]
        exact wpAnyIn_take (by rw [hro]; rfl) (by rw [List.getElem?_toArray]; exact ho) hs3 (free_mono hs2 (ready_iff.1 hr1 |>.2.elim fun o' q => by rw [ho] at q; cases q.1; exact q.2)) (by simpa using hr1) (fun c a w h => h.elim) ⟨.inl ⟨hw, q1⟩, q3⟩ q2
      · refine ⟨fun e => by rw [e] at hready; simp at hready, fun i hi => one i hi ?_⟩
        obtain ⟨h1, o, ho, hr⟩ := ready_iff.1 hi
        obtain ⟨hSi, hilt⟩ := getD_false_of_true h1
        rw [p.size] at hilt
        rcases Nat.lt_or_ge i m with q | q
        · exact q
        · exfalso
          have hn0 : i0 ∉ late := fun hc => hl ⟨i0, hc, hready⟩
          have := masks_closed (fun k => S.getD k false) l [] 0 rfl (by simp) (by simpa using D.lt) (by
            intro i' o' ho' hSi' j' hj'
            simp only [Nat.zero_add] at hSi'
            exact p.closed i' o' ho' hSi' j' hj') i o ho hr i0 (by simpa using D.tail i q hilt i0 (by omega) hn0)
          rw [hS0] at this; cases this
  obtain ⟨k1, k2, r, H⟩ := k
  have k2 : Marks E { w with drawn := w.drawn + 1 } a.defers := k2.grow H (Grow.same H.ok ((Below.refl _ _).drew))
  have hcount : ((List.range m).filter fun i => !(Array.replicate l.toArray.size false).getD i false).length = m := by
    rw [List.filter_eq_self.2 (fun i hi => ?_)]
    · simp
    · rw [getD_replicate]; rfl
  have hdrew : HoldsAt E { g with sl := [] } r a { w with drawn := w.drawn + 1 } := by
    have hgr : Grow r w r w.drew := Grow.same H.ok ((Below.refl _ _).drew)
    have := H.grow hgr (a' := a) H.slots
    exact { this with slots := fun _ _ _ e => by cases e }
  have fin := key m (Array.replicate l.toArray.size false) a { w with drawn := w.drawn + 1 } ⟨by simp, fun i _ => getD_replicate _ i, (by intro i o _ hS; rw [getD_replicate] at hS; cases hS), k1, k2, r, fun _ => 0, (by rw [show ownAl as (Array.replicate l.toArray.size false) (fun _ => 0) = [] from by unfold ownAl; rw [List.filter_eq_nil_iff.2 (fun x _ => by rw [getD_replicate]; simp)]; rfl]; exact hdrew), (by intro x _ hS; rw [getD_replicate] at hS; cases hS), fun s c x e _ => H.slots s c x e, (by intro i f _ hS; rw [getD_replicate] at hS; cases hS)⟩ hcount
  rw [show m + (l.length - m) = l.toArray.size from by simp; omega] at fin
  exact fin
end Go.L
/-! Calls under a condition, objects that are no more written, held in a variable. -/
namespace Go.L
open Go Go.RowKit
/-- A value that is told, and what holds of it. -/
def A.isv (v : Value) (u : A) : A := ⟨fun r x => x = v ∧ u.p r x, fun h k => ⟨k.1, u.mono h k.2⟩⟩
section
variable {E : Env} {g : Ctx} {Q : Exit → Act → World → Prop} {ops : Array Oper}
theorem WL_cellOf {l : List Oper} (j o s : Nat) {b tb : Nat} {v : Value} {u : A} {cells : List A} (hs : look g.sl s = some (true, A.isv v u)) (hj : g.own[j]? = some (b, tb, cells)) (hc : cells[o]? = some (A.val v))
    (h : WL E ops l { g with own := g.own.set j (b, tb, cells.set o u) } Q) : WL E ops l g Q := by
  intro a w ⟨h1, h2, r, H⟩
  have hu : u.p r v := by
    obtain ⟨e, k⟩ := (H.slots s _ _ hs).1 rfl
    rw [e] at k; exact k
  have hset : (g.own.set j (b, tb, cells.set o u)).map (·.1) = g.own.map (·.1) := by
    rw [List.map_set]
    apply List.ext_getElem?
    intro n
    rw [List.getElem?_set]
    split
    · rename_i e; subst e
      rw [List.getElem?_map, hj]; simp
      exact (List.getElem?_eq_some_iff.1 hj).1
    · rfl
  refine h a w ⟨h1, h2, r, ?_⟩
  exact { H with
    own := fun x hx => by
      obtain ⟨n, hn, rfl⟩ := List.getElem_of_mem hx
      have hn' : n < g.own.length := by simpa using hn
      have hbase := H.own _ (List.getElem_mem hn')
      rw [List.getElem_set]
      split
      · rename_i e; subst e
        have e2 : g.own[j] = (b, tb, cells) := by rw [List.getElem?_eq_getElem hn'] at hj; exact Option.some.inj hj
        rw [e2] at hbase
        obtain ⟨q1, vs, q2, q3⟩ := hbase
        refine ⟨q1, vs, q2, ?_⟩
        refine All2.of_get (by rw [List.length_set]; exact q3.length) fun p c v' hc' hv' => ?_
        rw [List.getElem?_set] at hc'
        split at hc'
        · rename_i e; subst e
          split at hc'
          · cases hc'
            obtain ⟨v2, hv2, hp2⟩ := q3.get _ _ hc
            rw [hv'] at hv2; cases hv2
            have : v' = v := hp2
            rw [this]; exact hu
          · cases hc'
        · obtain ⟨v2, hv2, hp2⟩ := q3.get _ _ hc'
          rw [hv'] at hv2; cases hv2
          exact hp2
      · exact hbase
    ownB := fun x hx => by
      have : x.1 ∈ (g.own.set j (b, tb, cells.set o u)).map (·.1) := List.mem_map.2 ⟨x, hx, rfl⟩
      rw [hset] at this
      obtain ⟨y, hy, e⟩ := List.mem_map.1 this
      rw [← e]; exact H.ownB y hy
    nodup := by rw [hset]; exact H.nodup
    roomB := fun x hx b' e => by rw [hset]; exact H.roomB x hx b' e }
/-- A call that is handed memory, if a condition does not hold. Where it holds, the memory stays. -/
theorem WL_callXf1 {rest : List Oper} {T : Type} (io ir im : List Nat) {d f j gs : Nat} {bg : Bool} {ty : TypeId} {pos : String} {aft : Array Edge} {xs : List Operand} {ts : List A} {tt : Array TypeId} {m : Mem} {t : T → A} {m' : T → Mem} (x0 : T)
    (hj : (ops[j]?).bind (·.dst) = some gs) (hgl : look g.sl gs = some (true, A.bool bg)) (hgs : Nat.ble (gs + 1) E.n = true)
    (hf : CallF E.P f) (h : bg = false → FnX E.P f m ts t m') (hl : xs.length = ts.length) (hr : Reads g.sl (!bg) ((xs.zip ts).map fun z => (true, z.1, z.2)))
    (ho : OSub m.own (picks io g.own)) (hrm : m.rooms = picks ir g.rooms) (hm : m.maps = picks im g.maps) (hi : decide (io.Nodup ∧ ir.Nodup ∧ im.Nodup) = true) (hd : Nat.ble (d + 1) E.n = true) (h0 : m' x0 = m)
    (k : ∀ x, WL E ops rest { g with sl := (d, !bg, t x) :: g.sl, own := (m' x).own ++ others io g.own, rooms := (m' x).rooms ++ others ir g.rooms, maps := (m' x).maps ++ others im g.maps } Q) :
    WL E ops (⟨some d, .call { callee := .value (.func f), args := xs.toArray, argTypes := tt }, ty, pos, aft, some (j, false)⟩ :: rest) g Q := by
  intro a w ⟨h1, h2, r, H⟩
  obtain ⟨q1, q2, q3⟩ := of_decide_eq_true hi
  have hmem := MemOk.picks H io ir im q1 q2 q3 ho hrm hm
  have hlt : d < a.tmps.size := by rw [h1]; exact Nat.le_of_ble_eq_true hd
  have hgt : gs < a.tmps.size := by rw [h1]; exact Nat.le_of_ble_eq_true hgs
  have hgv := (H.slots gs _ _ hgl).1 rfl
  have hw : Region.wanted ⟨some d, .call { callee := .value (.func f), args := xs.toArray, argTypes := tt }, ty, pos, aft, some (j, false)⟩ (yielded ops a.tmps) = (bg == false) := wanted_of rfl hj hgt hgv
  refine wpListIn_step fun K hK => ?_
  rw [hw]
  cases bg with
  | true =>
    rw [if_neg (by simp)]
    refine ⟨fun _ _ => trivial, ?_⟩
    have gx : GrowX m.blk r w r w := ⟨fun _ _ e => e, H.ok, fun a v e => .inl e, Nat.le_refl _, fun _ _ _ => rfl, fun _ _ u => u, rfl, rfl, rfl⟩
    refine hK _ _ (k x0 _ _ ⟨by rw [size_put]; exact h1, by rw [defers_put]; exact h2, r, ?_⟩)
    exact H.callX io ir im (m' := m') (x := x0) ho hrm hm gx (by rw [h0]; exact hmem) (by rw [h0]; exact fun b hb => .inl hb) (Slots.put H.slots hlt (fun hc => by cases hc) (fun _ => rfl))
  | false =>
    rw [if_pos (by rfl)]
    have hu := hr.use rfl H.slots
    have hall := all2_args (r := r) hl hu
    have hcall := h rfl r w _ H.ok hmem hall
    refine ⟨fun f _ => trivial, ?_⟩
    rw [Oper.semAt_eq _ _ _ (by simp)]
    show Oper.uponIn (fz E.rnd) 9 E.P _ a K Q ((execOp a.eval ⟨some d, .call { callee := .value (.func f), args := xs.toArray, argTypes := tt }, ty, pos, aft, some (j, false)⟩).run E.P w)
    rw [exec_eq, run_callf hf, Oper.uponIn_enter]
    refine ⟨fun h => (by cases h), CallsIn.mono (calls_fz hcall) ?_⟩
    rintro e w'' ⟨v, s, x, rfl, gx, hv, mx, bx⟩
    refine hK _ _ (k x _ _ ⟨by rw [size_put]; exact h1, by rw [defers_put]; exact Marks.callX H io ir im ho hrm hm gx h2, s, ?_⟩)
    exact H.callX io ir im ho hrm hm gx mx bx (Slots.put (Slots.mono H.slots gx.le) hlt (fun _ => hv) (fun hc => by cases hc))
theorem WL_stg {l : List Oper} (s : Nat) {c : Bool} {p : Prop} {t : A} (hs : look g.sl s = some (c, A.st p t)) (h : (c = true → p) → WL E ops l { g with sl := (s, c, t) :: g.sl } Q) : WL E ops l g Q := by
  intro a w ⟨h1, h2, r, H⟩
  have hp : c = true → p := fun e => ((H.slots s _ _ hs).1 e).1
  have hsl : ∀ s' c' x, look ((s, c, t) :: g.sl) s' = some (c', x) → (c' = true → x.p r (a.tmps.getD s' undef)) ∧ (c' = false → a.tmps.getD s' undef = undef) := by
    intro s' c' x e
    unfold look at e
    split at e
    · rename_i q
      have q : s = s' := by simpa using q
      subst q; cases e
      exact ⟨fun hc => ((H.slots _ _ _ hs).1 hc).2, (H.slots _ _ _ hs).2⟩
    · exact H.slots s' c' x e
  exact h hp a w ⟨h1, h2, r, { H with slots := hsl }⟩
end
end Go.L
namespace Go.L
open Go Go.RowKit
/-- A call that gives new memory, which is no more written. -/
theorem FnC_of_X {P : Program} {f : FuncId} {T : Type} {args : List A} {t : T → A} {m' : T → Mem} {u : A} (h : FnX P f {} args t m') (hi : ∀ x, Imp (t x) u) : FnC P f args u := fun r w vs hok hall => by
  refine Calls.mono (h r w vs hok MemOk.nil hall) ?_
  rintro e w' ⟨v, s, x, rfl, gx, hv, _, _⟩
  have hno : ∀ b, ¬ (Mem.blk {} b) := fun b hb => by rcases hb with q | q | q <;> cases q
  exact ⟨v, s, rfl, ⟨gx.le, gx.ok, fun a v e => (gx.fresh a v e).imp id fun q => ⟨q.1.resolve_left (hno _), q.2⟩, ⟨gx.os, gx.tape, gx.output, gx.size, fun k hk => gx.block k hk (hno k)⟩⟩, hi x _ _ hv⟩
end Go.L
