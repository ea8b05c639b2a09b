import Derived.Test.YtfjggobjijeniaaApp2
/-! More operations: slice expressions, closures, literals, builds, nil checks; results in cells; loops that lay blocks. -/
namespace Go.L
open Go Go.RowKit

theorem TS.elem {P : Program} {t e k : Nat} (h : TS P t e k) : P.underlying t = some (.slice (P.elem t)) := by
  have := h.under
  rw [this]
  simp [Program.elem, this]
theorem TS.elem_eq {P : Program} {t e k : Nat} (h : TS P t e k) : P.elem t = e := by
  simp [Program.elem, h.under]

section
variable {P : Program} {own : OC} {ty : TypeId} {T e k : Nat} {x lo hi : Operand} {S : Type} {f : S → List A} {L : List S}

theorem sl_sliced {r : Rho} {v : Value} (h : (A.sl k f L).p r v) {a : Option Addr} {len cap : Nat} (hv : v = .slice a len cap) {i j : Nat} (hij : i ≤ j) (hj : j ≤ L.length) :
    (A.sl k f ((L.take j).drop i)).p r (sliced a i j cap k) := by
  obtain ⟨a', len', cap', e, h1, h2, h3, h4⟩ := h
  rw [hv] at e
  cases e
  have hl : ((L.take j).drop i).length = j - i := by simp; omega
  refine ⟨_, _, _, rfl, hl.symm, by omega, by omega, fun hne => ?_⟩
  have hLne : L ≠ [] := fun e => by subst e; simp at hne
  obtain ⟨b, o, rfl, hc⟩ := h4 hLne
  have hlt : i < j := by
    rcases Nat.lt_or_ge i j with q | q
    · exact q
    · exact absurd (List.eq_nil_of_length_eq_zero (by rw [hl]; omega)) hne
  refine ⟨b, o + i * k, ?_, fun m y hm => ?_⟩
  · rw [if_neg (by omega)]
    simp [add_off]
  · have hm' : L[i + m]? = some y := by
      rw [List.getElem?_drop, List.getElem?_take] at hm
      split at hm
      · exact hm
      · cases hm
    have := hc (i + m) y hm'
    rwa [show o + i * k + m * k = o + (i + m) * k from by rw [Nat.add_mul]; omega]

theorem O_slice_h {j : Int} (h : TS P T e k) (hb : 0 ≤ j ∧ j ≤ L.length) :
    OpN P own [(true, x, A.sl k f L), (true, hi, A.int j)] (.slice T x none (some hi) none) ty (A.sl k f (L.take j.toNat)) := fun r w a hok _ hn => by
  have h0 := hn (true, x, A.sl k f L) (by simp) rfl
  have hj : a.eval hi = .int .i64 j := hn (true, hi, A.int j) (by simp) rfl
  obtain ⟨p, len, cap, hx, h1, h2, h3, h4⟩ := id h0
  have hx : a.eval x = .slice p len cap := hx
  have hs := sl_sliced h0 hx (i := 0) (j := j.toNat) (Nat.zero_le _) (by omega)
  have hr := run_slice_h (P := P) (w := w) T p len cap h.elem .i64 j hb.1 (by omega)
  have hz : sizeAt P (P.elem T) = some k := by rw [h.elem_eq]; exact h.2
  simp only [exec, execOp, hx, hj, Sem.run_bind, Option.map_some, Option.map_none, run_sliceAt_slice (P := P) w T _ _ _ _ h.elem, hr, run_sizeOf hz, Result.andThen_ok, Sem.run_pure]
  exact Good.here hok (by simpa using hs)
theorem O_slice_l {i : Int} (h : TS P T e k) (hb : 0 ≤ i ∧ i ≤ L.length) :
    OpN P own [(true, x, A.sl k f L), (true, lo, A.int i)] (.slice T x (some lo) none none) ty (A.sl k f (L.drop i.toNat)) := fun r w a hok _ hn => by
  have h0 := hn (true, x, A.sl k f L) (by simp) rfl
  have hi : a.eval lo = .int .i64 i := hn (true, lo, A.int i) (by simp) rfl
  obtain ⟨p, len, cap, hx, h1, h2, h3, h4⟩ := id h0
  have hx : a.eval x = .slice p len cap := hx
  have hs := sl_sliced h0 hx (i := i.toNat) (j := len) (by omega) (by omega)
  have hr := run_slice_l (P := P) (w := w) T p len cap h.elem .i64 i hb.1 (by omega)
  have hz : sizeAt P (P.elem T) = some k := by rw [h.elem_eq]; exact h.2
  simp only [exec, execOp, hx, hi, Sem.run_bind, Option.map_some, Option.map_none, run_sliceAt_slice (P := P) w T _ _ _ _ h.elem, hr, run_sizeOf hz, Result.andThen_ok, Sem.run_pure]
  exact Good.here hok (by rw [h1, List.take_length] at hs; rw [h1]; exact hs)
theorem O_slice_lh {i j : Int} (h : TS P T e k) (hb : 0 ≤ i ∧ i ≤ j ∧ j ≤ L.length) :
    OpN P own [(true, x, A.sl k f L), (true, lo, A.int i), (true, hi, A.int j)] (.slice T x (some lo) (some hi) none) ty (A.sl k f ((L.take j.toNat).drop i.toNat)) := fun r w a hok _ hn => by
  have h0 := hn (true, x, A.sl k f L) (by simp) rfl
  have hi' : a.eval lo = .int .i64 i := hn (true, lo, A.int i) (by simp) rfl
  have hj : a.eval hi = .int .i64 j := hn (true, hi, A.int j) (by simp) rfl
  obtain ⟨p, len, cap, hx, h1, h2, h3, h4⟩ := id h0
  have hx : a.eval x = .slice p len cap := hx
  have hs := sl_sliced h0 hx (i := i.toNat) (j := j.toNat) (by omega) (by omega)
  have hr := run_slice_lh (P := P) (w := w) T p len cap h.elem .i64 .i64 i j hb.1 hb.2.1 (by omega)
  have hz : sizeAt P (P.elem T) = some k := by rw [h.elem_eq]; exact h.2
  simp only [exec, execOp, hx, hi', hj, Sem.run_bind, Option.map_some, Option.map_none, run_sliceAt_slice (P := P) w T _ _ _ _ h.elem, hr, run_sizeOf hz, Result.andThen_ok, Sem.run_pure]
  exact Good.here hok hs
end

section
variable {P : Program} {own : OC} {ty : TypeId} {x : Operand}
theorem O_nilCheck {l : List A} : OpN P own [(true, x, A.pt l)] (.nilCheck x) ty (A.pt l) := fun r w a hok _ hn => by
  have h0 := hn (true, x, A.pt l) (by simp) rfl
  obtain ⟨b, o, hx, _⟩ := id h0
  have hx : a.eval x = .pointer (some ⟨b, o, none⟩) := hx
  rw [hx] at h0
  simp only [exec, execOp, hx, Sem.run_pure]
  exact Good.here hok h0
theorem O_nilCheckv {b o : Nat} : OpN P own [(true, x, A.val (.pointer (some ⟨b, o, none⟩)))] (.nilCheck x) ty (A.val (.pointer (some ⟨b, o, none⟩))) := fun r w a hok _ hn => by
  have hx : a.eval x = .pointer (some ⟨b, o, none⟩) := hn (true, x, _) (List.mem_singleton.2 rfl) rfl
  simp only [exec, execOp, hx, Sem.run_pure]
  exact Good.here hok rfl

/-- A closure: its function, what it has captured. -/
def A.cl (f : FuncId) (caps : List A) : A :=
  ⟨fun r v => ∃ vs : List Value, v = .func (.func f) #[] vs.toArray ∧ All2 r caps vs, fun h ⟨vs, e, k⟩ => ⟨vs, e, k.mono h⟩⟩

theorem O_makeFunc {f : FuncId} {xs : List Operand} {caps : List A} (hl : xs.length = caps.length) :
    OpN P own ((xs.zip caps).map fun z => (true, z.1, z.2)) (.makeFunc (.func f) #[] xs.toArray) ty (A.cl f caps) := fun r w a hok _ hn => by
  have := all2_args hl hn
  simp only [exec, execOp, Sem.run_bind, Instr.makeFunc, Sem.run_pure, Result.andThen_ok]
  exact Good.here hok ⟨xs.map a.eval, by simp, this⟩

/-- A call of a closure. -/
theorem O_callcl {f : FuncId} {g : Operand} {xs : List Operand} {ts caps : List A} {t : A} {tt : Array TypeId} (hf : CallF P f) (h : FnC P f (ts ++ caps) t) (hl : xs.length = ts.length) :
    OpN P own ((true, g, A.cl f caps) :: (xs.zip ts).map fun z => (true, z.1, z.2)) (.call { callee := .value g, args := xs.toArray, argTypes := tt }) ty t := fun r w a hok _ hn => by
  have ha := all2_args hl (fun z hz => hn z (List.mem_cons_of_mem _ hz))
  obtain ⟨vs, hg, hv⟩ := hn (true, g, A.cl f caps) (List.mem_cons_self ..) rfl
  have hg : a.eval g = .func (.func f) #[] vs.toArray := hg
  have hcall := h r w (xs.map a.eval ++ vs) hok (ha.append hv)
  simp only [exec, execOp, resolve, Sem.run_bind, Sem.run_pure, Result.andThen_ok, hg, Deferred.ofValue, invoke]
  simp only [List.map_toArray, List.append_toArray, hf w _]
  exact ⟨rfl, hcall⟩
end

section
variable {E : Env} {g : Ctx} {Q : Exit → Act → World → Prop} {l : List Oper} {ops : Array Oper}

/-- The first says no more than the second, place by place. -/
def AllImp : List A → List A → Prop
  | [], [] => True
  | t :: l, u :: m => Imp u t ∧ AllImp l m
  | _, _ => False
theorem AllImp.refl : ∀ {l : List A}, AllImp l l
  | [] => trivial
  | _ :: _ => ⟨Imp.refl, AllImp.refl⟩
theorem AllImp.eq {l m : List A} (h : l = m) : AllImp l m := h ▸ AllImp.refl
theorem AllImp.all2 {r : Rho} : ∀ {l m : List A} {vs : List Value}, AllImp l m → All2 r m vs → All2 r l vs
  | [], [], _, _, k => k
  | _ :: _, _ :: _, _ :: _, h, k => ⟨h.1 _ _ k.1, AllImp.all2 h.2 k.2⟩
  | _ :: _, _ :: _, [], _, k => k.elim
  | [], _ :: _, _, h, _ => h.elim
  | _ :: _, [], _, h, _ => h.elim
/-- Fewer owned blocks, of which less is said. -/
inductive OSub : Own → Own → Prop
  | nil {l : Own} : OSub [] l
  | skip {l m : Own} {x : Nat × TypeId × List A} (h : OSub l m) : OSub l (x :: m)
  | cons {l m : Own} {b ty : Nat} {cs ds : List A} (h : AllImp cs ds) (k : OSub l m) : OSub ((b, ty, cs) :: l) ((b, ty, ds) :: m)
theorem OSub.refl : ∀ {l : Own}, OSub l l
  | [] => .nil
  | (_, _, _) :: _ => .cons AllImp.refl OSub.refl
theorem OSub.mem {l m : Own} (h : OSub l m) : ∀ x ∈ l, ∃ ds, (x.1, x.2.1, ds) ∈ m ∧ AllImp x.2.2 ds := by
  induction h with
  | nil => intro x hx; cases hx
  | skip h ih => intro x hx; obtain ⟨ds, h1, h2⟩ := ih x hx; exact ⟨ds, List.mem_cons_of_mem _ h1, h2⟩
  | cons h k ih =>
    intro x hx
    rcases List.mem_cons.1 hx with rfl | hx
    · exact ⟨_, List.mem_cons_self .., h⟩
    · obtain ⟨ds, h1, h2⟩ := ih x hx; exact ⟨ds, List.mem_cons_of_mem _ h1, h2⟩
theorem OSub.fst {l m : Own} (h : OSub l m) : (l.map (·.1)).Sublist (m.map (·.1)) := by
  induction h with
  | nil => exact List.nil_sublist _
  | skip h ih => exact ih.cons _
  | cons h k ih => exact ih.cons_cons _
theorem OwnAt.imp {r : Rho} {w : World} {b ty : Nat} {cs ds : List A} (h : OwnAt r w b ty ds) (k : AllImp cs ds) : OwnAt r w b ty cs :=
  let ⟨h1, vs, h2, h3⟩ := h; ⟨h1, vs, h2, k.all2 h3⟩
theorem OSub.ok {l m : Own} (h : OSub l m) {r : Rho} {w : World} (k : OwnOk r w m) : OwnOk r w l := fun x hx => by
  obtain ⟨ds, h1, h2⟩ := h.mem x hx
  exact (k _ h1).imp h2

/-- Fewer facts, fewer owned blocks, fewer rooms. -/
theorem Holds.less {g' : Ctx} {a : Act} {w : World} (h : Holds E g a w) (hs : Facts g.sl g'.sl) (ho : OSub g'.own g.own) (hr : g'.rooms.Sublist g.rooms) (hm : g'.maps = g.maps) (hob : g'.objs = g.objs) (hc : ∀ c ∈ g'.cps, c ∈ g.cps) : Holds E g' a w := by
  obtain ⟨h1, h2, r, H⟩ := h
  refine ⟨h1, h2, r, ?_⟩
  exact {
    le := H.le, cps := fun c h => H.cps c (hc c h), ok := H.ok, fresh := H.fresh, size := H.size, block := H.block, unf := H.unf, os := H.os, tape := H.tape, output := H.output
    slots := fun s c t e => by
      obtain ⟨rfl, u, hu, k⟩ := hs.use e
      exact ⟨fun _ => k _ _ ((H.slots s true u hu).1 rfl), fun h => by cases h⟩
    own := ho.ok H.own
    ownB := fun x hx => by obtain ⟨ds, h1, _⟩ := ho.mem x hx; exact H.ownB (x.1, x.2.1, ds) h1
    nodup := H.nodup.sublist ho.fst
    room := fun x hx => H.room x (hr.subset hx)
    roomB := fun x hx b hb => ⟨(H.roomB x (hr.subset hx) b hb).1, fun hm => (H.roomB x (hr.subset hx) b hb).2 (ho.fst.subset hm)⟩
    roomN := H.roomN.sublist (hr.filterMap _)
    mp := by rw [hm, hob]; exact H.mp }
/-- Fewer facts from here on. -/
theorem WL_less (g' : Ctx) (hs : Facts g.sl g'.sl) (ho : OSub g'.own g.own) (hr : g'.rooms.Sublist g.rooms) (hm : g'.maps = g.maps) (hob : g'.objs = g.objs) (hc : ∀ c ∈ g'.cps, c ∈ g.cps) (h : WL E ops l g' Q) : WL E ops l g Q :=
  fun a w k => h a w (k.less hs ho hr hm hob hc)

/-- A loop: J says what holds of the slots that it writes, O of its owned blocks, R of its rooms; the slots ks stay as they are. -/
theorem W_loopo {c : Code} {T : Type} (ks : List Nat) (q : T → Prop) (J : T → List (Nat × Bool × A)) (O : T → Own) (R : T → List (Value × Nat × Nat)) (M : T → List (Nat × List (Value × A))) (m : T → Nat) (x0 : T) (hq : q x0) (h0 : Facts g.sl (J x0)) (hO : OSub (O x0) g.own) (hR : (R x0).Sublist g.rooms) (hM : M x0 = g.maps)
    (round : ∀ x, q x → W E c ⟨J x ++ keep g.sl ks, O x, R x, M x, g.objs, g.cps⟩ (Exit.then (fun a w => ∃ x', q x' ∧ m x' < m x ∧ Holds E ⟨J x' ++ keep g.sl ks, O x', R x', M x', g.objs, g.cps⟩ a w) Q)) : W E (.loop c) g Q :=
  W_loop q (fun x => ⟨J x ++ keep g.sl ks, O x, R x, M x, g.objs, g.cps⟩) m ⟨x0, hq, fun _ _ h => h.less (Facts.append h0 (Facts.keep Kept.self)) hO hR hM rfl (fun _ h => h)⟩ round
theorem Fin_backo {T : Type} {ks : List Nat} {q : T → Prop} {J : T → List (Nat × Bool × A)} {O : T → Own} {R : T → List (Value × Nat × Nat)} {M : T → List (Nat × List (Value × A))} {m : T → Nat} {x : T} {g' : Ctx} {N : Exit → Act → World → Prop} (x' : T) (hq : q x') (hm : m x' < m x) (h : Facts g'.sl (J x'))
    (hk : Kept g.sl g'.sl ks) (ho : OSub (O x') g'.own) (hr : (R x').Sublist g'.rooms) (hmm : M x' = g'.maps) (hob : g.objs = g'.objs := by rfl) (hc : g.cps = g'.cps := by rfl) :
    Fin E g' .normal (Exit.then (fun a w => ∃ x', q x' ∧ m x' < m x ∧ Holds E ⟨J x' ++ keep g.sl ks, O x', R x', M x', g.objs, g.cps⟩ a w) N) :=
  fun _ _ H => ⟨x', hq, hm, H.less (Facts.append h (Facts.keep hk)) ho hr hmm hob (fun c h => hc ▸ h)⟩

theorem HoldsAt.retell {r : Rho} {a : Act} {w : World} {y : A} {s : Nat} (H : HoldsAt E g r a w) (hy : y.p r (a.tmps.getD s undef)) : HoldsAt E { g with sl := (s, true, y) :: g.sl } r a w :=
  { le := H.le, cps := H.cps, ok := H.ok, fresh := H.fresh, size := H.size, block := H.block, unf := H.unf, os := H.os, tape := H.tape, output := H.output, own := H.own, ownB := H.ownB, nodup := H.nodup, room := H.room, roomB := H.roomB, roomN := H.roomN, mp := H.mp
    slots := fun s' c t e => by
      rcases Nat.decEq s s' with q | q
      · exact H.slots s' c t (by
          simp only [look] at e
          rw [show (s == s') = false from by simpa using q] at e
          exact e)
      · subst q
        simp only [look, beq_self_eq_true] at e
        cases e
        exact ⟨fun _ => hy, fun e => by cases e⟩ }
/-- Where a value is known up to something: that something is named. -/
theorem WL_ex {T : Type} {f : T → A} (s : Nat) (hs : look g.sl s = some (true, A.ex f)) (h : ∀ x, WL E ops l { g with sl := (s, true, f x) :: g.sl } Q) : WL E ops l g Q := by
  intro a w ⟨h1, h2, r, H⟩
  obtain ⟨x, hx⟩ := (H.slots s true _ hs).1 rfl
  exact h x a w ⟨h1, h2, r, H.retell hx⟩
/-- The same of a statement. -/
theorem WL_st {p : Prop} {u : A} (s : Nat) (hs : look g.sl s = some (true, A.st p u)) (h : p → WL E ops l { g with sl := (s, true, u) :: g.sl } Q) : WL E ops l g Q := by
  intro a w ⟨h1, h2, r, H⟩
  obtain ⟨hp, hx⟩ := (H.slots s true _ hs).1 rfl
  exact h hp a w ⟨h1, h2, r, H.retell hx⟩
/-- A fact said otherwise. -/
theorem WL_imp {u t : A} (s : Nat) (hs : look g.sl s = some (true, u)) (hi : Imp u t) (h : WL E ops l { g with sl := (s, true, t) :: g.sl } Q) : WL E ops l g Q := by
  intro a w ⟨h1, h2, r, H⟩
  exact h a w ⟨h1, h2, r, H.retell (hi _ _ ((H.slots s true u hs).1 rfl))⟩
end

theorem Chain_cons {E : Env} {ops : Array Oper} {own : OC} {o : Oper} {rest : List Oper} {av : List (Nat × Bool × A)} {K : List (Nat × Bool × A) → Prop} {d : Nat} {c : Bool} {t : A}
    (h : Step1 E ops own av o (d, c, t)) (k : Chain E ops own rest ((d, c, t) :: av) K) : Chain E ops own (o :: rest) av K := ⟨(d, c, t), h, k⟩
theorem Chain_nil {E : Env} {ops : Array Oper} {own : OC} {av : List (Nat × Bool × A)} {K : List (Nat × Bool × A) → Prop} (h : K av) : Chain E ops own [] av K := h

end Go.L
