import Derived.Test.YtfjggobjijeniaaBuild
/-! A range over a function: the iterator's body is walked in place; at each call of yield the loop's body is. -/
namespace Go.L
open Go Go.RowKit

theorem HoldsAt.putHead {E : Env} {g : Ctx} {r : Rho} {a : Act} {w : World} {l : Nat} {o o' : Obj} {ex : List (Nat × Obj)} (H : HoldsAt E g r a w) (hob : g.objs = (l, o) :: ex) (ho' : o'.isCells = false) (hnm' : isMapO o' = false) :
    HoldsAt E { g with objs := (l, o') :: ex } r a (w.putObj l o') := by
  obtain ⟨hl, ho, hb⟩ := H.mp.obj (l, o) (by rw [hob]; simp)
  have hnd := H.mp.objN
  rw [hob, List.map_cons, List.nodup_cons] at hnd
  have hlt : l < w.heap.size := (Array.getElem?_eq_some_iff.1 hl).1
  have hnm : ∀ es cl, o ≠ .map es cl := fun es cl e => by rw [e] at hb; exact absurd hb.2 (by simp [isMapO])
  have same : ∀ (b : Nat) cs ty fr, w.heap[b]? = some (Obj.cells cs ty fr) → (w.putObj l o').heap[b]? = some (Obj.cells cs ty fr) := by
    intro b cs ty fr hbb
    have hne : b ≠ l := fun e => by subst e; rw [hl] at hbb; cases hbb; cases ho
    rw [World.putObj_heap_other hne]; exact hbb
  have cell : ∀ x v, gc w.heap[x.block]? x = some v → gc (w.putObj l o').heap[x.block]? x = some v := by
    intro x v hx
    by_cases q : x.block = l
    · exfalso
      rw [q, hl] at hx
      unfold gc at hx
      split at hx
      · split at hx
        · rename_i heq; cases heq; cases ho
        · cases hx
      · split at hx
        · rename_i heq; cases heq; exact hnm _ _ rfl
        · cases hx
    · rw [World.putObj_heap_other q]; exact hx
  have unf : ∀ b, Unf w b → Unf (w.putObj l o') b := by
    intro b hU cs ty fr e
    by_cases q : b = l
    · subst q; rw [World.putObj_heap_same hlt] at e; cases e; cases ho'
    · rw [World.putObj_heap_other q] at e; exact hU _ _ _ e
  exact {
    le := H.le
    cps := H.cps
    ok := fun x v e => cell x v (H.ok x v e)
    fresh := fun x v e => (H.fresh x v e).elim .inl fun q => .inr ⟨q.1, unf _ q.2⟩
    size := by rw [World.putObj_size]; exact H.size
    block := fun k hk hx => by rw [World.putObj_heap_other (by simp only at hb; omega)]; exact H.block k hk hx
    unf := fun b hb hu => unf b (H.unf b hb hu)
    os := H.os
    tape := H.tape
    output := H.output
    slots := H.slots
    own := fun x hx => by
      obtain ⟨h1, vs, h2, h3⟩ := H.own x hx
      exact ⟨h1, vs, same _ _ _ _ h2, h3⟩
    ownB := H.ownB
    nodup := H.nodup
    room := fun x hx => by
      have := H.room x hx
      unfold RoomOk at this ⊢
      split at this
      · exact this
      · obtain ⟨h1, h2, h3, h4, ⟨vs, h5, h6⟩, h7⟩ := this
        exact ⟨h1, h2, h3, h4, ⟨vs, same _ _ _ _ h5, h6⟩, h7⟩
      · exact this
    roomB := H.roomB
    roomN := H.roomN
    mp := {
      at_ := fun x hx => by
        obtain ⟨arr, cl, h1, h2, h3⟩ := H.mp.at_ x hx
        refine ⟨arr, cl, ?_, h2, h3⟩
        have hne : x.1 ≠ l := fun e => by rw [e, hl] at h1; exact hnm _ _ (Option.some.inj h1)
        rw [World.putObj_heap_other hne]; exact h1
      un := H.mp.un
      base := H.mp.base
      nodup := H.mp.nodup
      obj := fun x hx => by
        rcases List.mem_cons.1 hx with rfl | hx
        · exact ⟨World.putObj_heap_same hlt, ho', hb.1, hnm'⟩
        · obtain ⟨h1, h2, h3⟩ := H.mp.obj x (by rw [hob]; simp [hx])
          refine ⟨?_, h2, h3⟩
          have hne : x.1 ≠ l := fun e => hnd.1 (List.mem_map.2 ⟨x, hx, e⟩)
          rw [World.putObj_heap_other hne]; exact h1
      objN := by rw [List.map_cons, List.nodup_cons]; exact hnd } }

theorem marks_objs {E : Env} {w : World} : ∀ {ds : List Deferred}, Marks E w ds → ∃ ex : List (Nat × Obj), (∀ x ∈ ex, w.heap[x.1]? = some x.2 ∧ x.2.isCells = false ∧ (E.w0.heap.size ≤ x.1 ∧ isMapO x.2 = false) ∧ { target := .collected x.1, args := #[] } ∈ ds) ∧ (ex.map (·.1)).Nodup ∧
    ∀ w' : World, (∀ x ∈ ex, w'.heap[x.1]? = some x.2) → Marks E w' ds
  | [], _ => ⟨[], by simp, by simp, fun _ _ => trivial⟩
  | d :: ds, ⟨⟨b, h1, h2, h3, h4⟩, k⟩ => by
    obtain ⟨ex, q1, q2, q3⟩ := marks_objs k
    refine ⟨(b, .deferred (some [])) :: ex, ?_, ?_, ?_⟩
    · intro x hx
      rcases List.mem_cons.1 hx with rfl | hx
      · exact ⟨h3, rfl, ⟨h2.1, rfl⟩, by rw [h1]; simp⟩
      · obtain ⟨k1, k2, k3, k4⟩ := q1 x hx
        exact ⟨k1, k2, k3, by simp [k4]⟩
    · rw [List.map_cons, List.nodup_cons]
      refine ⟨fun hm => ?_, q2⟩
      obtain ⟨x, hx, e⟩ := List.mem_map.1 hm
      obtain ⟨_, _, _, k4⟩ := q1 x hx
      simp only at e
      rw [e] at k4
      exact h4 _ k4 h1.symm
    · intro w' hw'
      exact ⟨⟨b, h1, h2, hw' (b, .deferred (some [])) (List.mem_cons_self ..), h4⟩, q3 w' fun x hx => hw' x (by simp [hx])⟩

/-- A range over a function under way. -/
structure RS (E : Env) (g : Ctx) (ps : Array Tmp) (as bd : Code) where
  fnid : FuncId
  a : Act
  r : Rho
  l : Nat
  D : Nat
  ex : List (Nat × Obj)
  size : a.tmps.size = E.n
  slots : Slots r a g.sl
  marks : ∀ w' : World, (∀ x ∈ ex, w'.heap[x.1]? = some x.2) → Marks E w' ({ target := .collected D, args := #[] } :: a.defers)

section
variable {E : Env} {g : Ctx} {ps : Array Tmp} {as bd : Code}
def RS.rcd (S : RS E g ps as bd) (st : LoopState) (pend : Option Code) : Loop := { state := st, pending := pend, fn := S.fnid, tmps := S.a.tmps, params := ps, assign := as, body := bd, defers := S.D }
def RS.objs (S : RS E g ps as bd) (st : LoopState) (pend : Option Code) : List (Nat × Obj) := (S.l, .loop (S.rcd st pend)) :: S.ex
def RS.E1 (S : RS E g ps as bd) (n : Nat) : Env := { E with n := n, rnd := none, plain := true }
def RS.E2 (S : RS E g ps as bd) : Env := { E with rnd := some S.l, plain := true }
def RS.a' (S : RS E g ps as bd) : Act := { S.a with defers := { target := .collected S.D, args := #[] } :: S.a.defers }

/-- The frame's other side. -/
theorem HoldsAt.env {E E' : Env} {g g' : Ctx} {r : Rho} {a a' : Act} {w : World} (H : HoldsAt E g r a w) (hw : E'.w0 = E.w0) (hX : E'.X = E.X) (h0 : E'.r0 = E.r0) (hK : E'.K = E.K)
    (ho : g'.own = g.own) (hr : g'.rooms = g.rooms) (hm : g'.maps = g.maps) (hob : g'.objs = g.objs) (hc : ∀ c ∈ g'.cps, c.le r) (hs : Slots r a' g'.sl) : HoldsAt E' g' r a' w := by
  have hb : ∀ b, E'.base b = E.base b := fun b => by unfold Env.base; rw [hw, hX]
  exact {
    le := by rw [h0, hK]; exact H.le
    cps := hc
    ok := H.ok
    fresh := fun x v e => by rw [h0, hK, hb]; exact H.fresh x v e
    size := by rw [hw]; exact H.size
    block := by rw [hw, hX]; exact H.block
    unf := by rw [hw]; exact H.unf
    os := by rw [hw]; exact H.os
    tape := by rw [hw]; exact H.tape
    output := by rw [hw]; exact H.output
    slots := hs
    own := by rw [ho]; exact H.own
    ownB := by rw [ho]; exact fun x hx => by rw [hb]; exact H.ownB x hx
    nodup := by rw [ho]; exact H.nodup
    room := by rw [hr]; exact H.room
    roomB := by rw [hr, ho]; exact fun x hx b q => by rw [hb]; exact H.roomB x hx b q
    roomN := by rw [hr]; exact H.roomN
    mp := by
      rw [hm, hob]
      exact ⟨H.mp.at_, H.mp.un, fun x hx => by rw [hb]; exact H.mp.base x hx, H.mp.nodup, fun x hx => by rw [hw]; exact H.mp.obj x hx, H.mp.objN⟩ }

def IterPost (S : RS E g ps as bd) (fn : Func) (Q : Exit → Act → World → Prop) : Exit → Act → World → Prop := bodyPostM (fz none) 9 E.P fn (rangePost (fz none) 9 E.P S.l Q S.a')

theorem callsIn_n {m n : Nat} {P : Program} {f : FuncId} {args : Array Value} {w : World} {R : Ending → World → Prop} (h : CallsIn (fz none) n P f args w R) : CallsIn (fz none) m P f args w R :=
  ⟨h.1, fun cs _ => h.2 cs (fun d hd => by cases hd)⟩
theorem roundIn_n {m n : Nat} {P : Program} {l : Nat} {f : FuncId} {tmps : Array Value} {as bd : Code} {w : World} {R : Ending → World → Prop} (h : RoundIn (fz none) n P l f tmps as bd w R) : RoundIn (fz none) m P l f tmps as bd w R :=
  ⟨h.1, fun c cs _ => h.2 c cs (fun d hd => by cases hd)⟩

theorem W_rangeFunc {Q : Exit → Act → World → Prop} {gs : Nat} {gf : FuncId} {fn : Func} {c : Code} {caps : List A} (hro : E.rnd = none) (hobj : g.objs = []) (hlow : E.plain = false)
    (hg : look g.sl gs = some (true, A.cl gf caps)) (hf : E.P.funcs[gf]? = some fn) (hb : fn.body = some c) (hcf : CallF E.P gf) (hn : Nat.ble (caps.length + 1) fn.ntmps = true)
    (h : ∀ S : RS E g ps as bd, W (S.E1 fn.ntmps) c ⟨(0, true, A.val (.func (.yield S.l) #[] #[])) :: params 1 caps, g.own, g.rooms, g.maps, S.objs .ready none, S.r :: g.cps⟩ (IterPost S fn Q)) :
    W E (.rangeFunc (.tmp gs) ps as bd) g Q := by
  intro a w ⟨h1, h2, r, H⟩
  rw [hro]
  obtain ⟨vs, hv, hcaps⟩ := (H.slots gs true _ hg).1 rfl
  have hv : a.eval (.tmp gs) = .func (.func gf) #[] vs.toArray := hv
  refine wpIn_rangeFunc fun fnid _ => ?_
  obtain ⟨ex, q1, q2, q3⟩ := marks_objs h2
  let rec0 : Loop := { state := .ready, pending := none, fn := fnid, tmps := a.tmps, params := ps, assign := as, body := bd, defers := w.heap.size }
  let w1 := (w.alloc (.deferred (some []))).alloc (.loop rec0)
  have hs1 : (w.alloc (.deferred (some []))).heap.size = w.heap.size + 1 := by simp
  have hL : w1.heap[w.heap.size + 1]? = some (.loop rec0) := by
    have := World.alloc_heap_new (w.alloc (.deferred (some []))) (.loop rec0); rwa [hs1] at this
  have hD : w1.heap[w.heap.size]? = some (.deferred (some [])) :=
    (Below.heap_alloc _ _ _ (by simp)).trans (World.alloc_heap_new w _)
  have gr : Grow r w r w1 := Grow.same H.ok (((Below.refl _ w).alloc (Nat.le_refl _) _).alloc (by simp) _)
  have H1 := H.grow gr (a' := a) H.slots
  have hex : ∀ x ∈ ex, w1.heap[x.1]? = some x.2 := fun x hx => by
    obtain ⟨k1, _⟩ := q1 x hx
    rw [gr.below.block _ (Array.getElem?_eq_some_iff.1 k1).1]; exact k1
  have hexlt : ∀ x ∈ ex, x.1 < w.heap.size := fun x hx => (Array.getElem?_eq_some_iff.1 (q1 x hx).1).1
  let S : RS E g ps as bd := {
    fnid := fnid, a := a, r := r, l := w.heap.size + 1, D := w.heap.size, ex := (w.heap.size, .deferred (some [])) :: ex, size := h1, slots := H.slots
    marks := fun w' hw' => ⟨⟨w.heap.size, rfl, ⟨H.size, hlow⟩, hw' (w.heap.size, .deferred (some [])) (List.mem_cons_self ..), fun d' hd' e => by
      subst e
      have : ∀ ds : List Deferred, Marks E w ds → { target := .collected w.heap.size, args := #[] } ∈ ds → False := by
        intro ds
        induction ds with
        | nil => intro _ hm; simp at hm
        | cons d ds ih =>
          intro ⟨⟨b, k1, _, k3, _⟩, k5⟩ hm
          rcases List.mem_cons.1 hm with e | hm
          · rw [k1] at e
            have : w.heap.size = b := by simpa using e
            have := (Array.getElem?_eq_some_iff.1 k3).1
            omega
          · exact ih k5 hm
      exact this _ h2 hd'⟩, q3 w' fun x hx => hw' x (by simp [hx])⟩ }
  refine ⟨w.heap.size + 1, [{ target := .collected w.heap.size, args := #[] }], w1, { target := .fn (.func gf) vs.toArray, args := #[.func (.yield (w.heap.size + 1)) #[] #[]] }, w1, gf,
    #[.func (.yield (w.heap.size + 1)) #[] #[]] ++ vs.toArray, w1, ?_, ?_, ?_, ?_, fun h => (by cases h), ?_⟩
  · exact run_enterLoop_outer _ _ _ _ _
  · simp only [resolve, hv]
    simp [go_sem]
  · intro f' _; trivial
  · simp only [invoke]
    exact hcf _ _
  · refine callsIn_n (callsIn_of_wp_marks (n := 9) hf hb trivial (h S _ _ ⟨?_, trivial, r, ?_⟩))
    · have := Nat.le_of_ble_eq_true hn
      have := hcaps.length
      simp [RS.E1]; omega
    · have hmp : MapsOk (S.E1 fn.ntmps) r w1 g.maps (S.objs .ready none) := {
        at_ := H1.mp.at_, un := H1.mp.un, base := H1.mp.base, nodup := H1.mp.nodup
        obj := fun x hx => by
          rcases List.mem_cons.1 hx with rfl | hx
          · exact ⟨hL, rfl, by have := H.size; show E.w0.heap.size ≤ w.heap.size + 1; omega, rfl⟩
          · rcases List.mem_cons.1 hx with rfl | hx
            · exact ⟨hD, rfl, H.size, rfl⟩
            · exact ⟨hex x hx, (q1 x hx).2.1, (q1 x hx).2.2.1⟩
        objN := by
          show ((w.heap.size + 1, _) :: (w.heap.size, _) :: ex |>.map (·.1)).Nodup
          rw [List.map_cons, List.map_cons, List.nodup_cons, List.nodup_cons]
          refine ⟨fun hm => ?_, fun hm => ?_, q2⟩
          · rcases List.mem_cons.1 hm with e | hm
            · simp at e
            · obtain ⟨x, hx, e⟩ := List.mem_map.1 hm
              have := hexlt x hx
              simp only at e; omega
          · obtain ⟨x, hx, e⟩ := List.mem_map.1 hm
            have := hexlt x hx
            simp only at e; omega }
      exact {
        le := H1.le, cps := fun c hc => (List.mem_cons.1 hc).elim (fun e => e ▸ r.le_refl) (H1.cps c), ok := H1.ok, fresh := H1.fresh, size := H1.size, block := H1.block, unf := H1.unf, os := H1.os, tape := H1.tape, output := H1.output
        slots := fun s c' x e => by
          have hall : All2 r (A.val (.func (.yield (w.heap.size + 1)) #[] #[]) :: caps) (.func (.yield (w.heap.size + 1)) #[] #[] :: vs) := ⟨rfl, hcaps⟩
          have e' : look (params 0 (A.val (.func (.yield (w.heap.size + 1)) #[] #[]) :: caps)) s = some (c', x) := e
          obtain ⟨rfl, j, rfl, hj⟩ := look_params e'
          obtain ⟨v, hv', hp⟩ := hall.get j x hj
          refine ⟨fun _ => ?_, fun h => by cases h⟩
          have hlt : j < vs.length + 1 := (List.getElem?_eq_some_iff.1 hv').1
          have e2 : (#[Value.func (.yield (w.heap.size + 1)) #[] #[]] ++ vs.toArray ++ Array.replicate (fn.ntmps - (#[Value.func (.yield (w.heap.size + 1)) #[] #[]] ++ vs.toArray).size) undef).getD (0 + j) undef = v := by
            rw [Nat.zero_add, Array.getD_eq_getD_getElem?, Array.getElem?_append_left (by simp; omega)]
            have : (#[Value.func (.yield (w.heap.size + 1)) #[] #[]] ++ vs.toArray)[j]? = (Value.func (.yield (w.heap.size + 1)) #[] #[] :: vs)[j]? := by simp
            rw [this, hv']; rfl
          show x.p r (Array.getD _ _ _)
          rw [e2]; exact hp
        own := H1.own, ownB := H1.ownB, nodup := H1.nodup, room := H1.room, roomB := H1.roomB, roomN := H1.roomN, mp := hmp }

/-- What is asked when the round's left side has been assigned. -/
def RoundQ (S : RS E g ps as bd) (a1 : Act) (d : Nat) (ops : Array Oper) (rest : List Oper) (Q1 : Exit → Act → World → Prop) : Ending → World → Prop
  | .returned v, w => wpListIn (fz none) 9 E.P ops Q1 rest (a1.put (some d) v) w
  | .panicked chain, w => Q1 (.panic chain) a1 w
  | .outgrown, _ => LetsOut Q1
def AssignQ (S : RS E g ps as bd) (a1 : Act) (d : Nat) (ops : Array Oper) (rest : List Oper) (Q1 : Exit → Act → World → Prop) : Exit → Act → World → Prop :=
  Exit.then (fun a₁ w₁ => ∃ w₂, (Instr.beginRound S.l).run E.P w₁ = .ok () w₂ ∧ bd.wpIn (fz (some S.l)) 9 E.P (roundPost E.P S.l (RoundQ S a1 d ops rest Q1)) a₁ w₂) (fun _ _ _ => False)

/-- An iterator's frame, at a call of yield. -/
structure AtYield (S : RS E g ps as bd) (g1 : Ctx) (n : Nat) (a1 : Act) (r1 : Rho) : Prop where
  size : a1.tmps.size = n
  plain : a1.defers = []
  slots : Slots r1 a1 g1.sl

theorem marks_plain {E : Env} (h : E.plain = true) {w : World} : ∀ {ds : List Deferred}, Marks E w ds → ds = []
  | [], _ => rfl
  | _ :: _, ⟨⟨_, _, h2, _, _⟩, _⟩ => by rw [h2.2] at h; cases h

theorem WL_yield {S : RS E g ps as bd} {n : Nat} {g1 : Ctx} {ops : Array Oper} {rest : List Oper} {Q1 : Exit → Act → World → Prop} {d p : Nat} {yl x : Operand} {t : A} {tt : Array TypeId} {ty : TypeId} {pos : String} {aft : Array Edge}
    (hps : ps = #[p]) (hp : Nat.ble (p + 1) E.n = true) (hobj : g1.objs = S.objs .ready none) (hcp : S.r ∈ g1.cps) (hr : Reads g1.sl true [(true, yl, A.val (.func (.yield S.l) #[] #[])), (true, x, t)])
    (h : ∀ a1 r1, AtYield S g1 n a1 r1 → W S.E2 as ⟨(p, true, t) :: g.sl, g1.own, g1.rooms, g1.maps, S.objs .ready none, r1 :: g1.cps⟩ (AssignQ S a1 d ops rest Q1)) :
    WL (S.E1 n) ops (⟨some d, .call { callee := .value yl, args := #[x], argTypes := tt }, ty, pos, aft, none⟩ :: rest) g1 Q1 := by
  intro a w ⟨h1, h2, r, H⟩
  have hu := hr.use rfl H.slots
  have hy : a.eval yl = .func (.yield S.l) #[] #[] := hu (true, yl, A.val (.func (.yield S.l) #[] #[])) (by simp) rfl
  have hx : t.p r (a.eval x) := hu (true, x, t) (by simp) rfl
  have hrec : w.heap[S.l]? = some (.loop (S.rcd .ready none)) := (H.mp.obj (S.l, _) (by rw [hobj]; exact List.mem_cons_self ..)).1
  have hrun : (execOp a.eval ⟨some d, .call { callee := .value yl, args := #[x], argTypes := tt }, ty, pos, aft, none⟩).run E.P w = .ok (.round S.l S.fnid (S.a.tmps.setIfInBounds p (a.eval x)) as bd) w := by
    simp only [execOp, resolve, hy, Sem.run_bind, Deferred.ofValue, Sem.run_pure, Result.andThen_ok, invoke]
    have := run_yield (P := E.P) hrec (args := (#[x].map a.eval) ++ #[]) (by simp [RS.rcd, hps])
    simpa [RS.rcd, hps] using this
  have hat : AtYield S g1 n a r := ⟨h1, marks_plain rfl h2, H.slots⟩
  refine wpListIn_plain rfl fun K hK => ?_
  refine ⟨fun f _ => trivial, ?_⟩
  rw [Oper.semAt_eq _ _ _ (by simp)]
  show Oper.uponIn (fz none) 9 E.P _ a K Q1 ((execOp a.eval _).run E.P w)
  rw [hrun, Oper.uponIn_round]
  refine ⟨fun h => (by cases h), roundIn_n (n := 9) (roundIn_of_wpIn trivial ?_)⟩
  have hW := h a r hat { tmps := S.a.tmps.setIfInBounds p (a.eval x), defers := [] } w ⟨by simp [RS.E2, S.size], trivial, r, ?_⟩
  · refine wpIn_mono hW ?_
    intro e a₁ w₁ k
    cases e with
    | normal =>
      obtain ⟨w₂, k1, k2⟩ := k
      refine ⟨w₂, k1, wpIn_mono k2 ?_⟩
      have hR : ∀ e w, RoundQ S a d ops rest Q1 e w → (match e with
        | .returned v => K (a.put (some d) v) w
        | .panicked chain => Q1 (.panic chain) a w
        | .outgrown => LetsOut Q1) := by
        intro e w hq
        cases e with
        | returned v => exact hK _ _ hq
        | panicked chain => exact hq
        | outgrown => exact hq
      intro e a₂ w₃ q
      cases e with
      | normal => obtain ⟨v, w', q1, q2⟩ := q; exact ⟨v, w', q1, hR _ _ q2⟩
      | ret => obtain ⟨v, w', q1, q2⟩ := q; exact ⟨v, w', q1, hR _ _ q2⟩
      | exit id => obtain ⟨v, w', q1, q2⟩ := q; exact ⟨v, w', q1, hR _ _ q2⟩
      | goto t => obtain ⟨v, w', q1, q2⟩ := q; exact ⟨v, w', q1, hR _ _ q2⟩
      | panic chain => exact q.elim
      | outgrown => exact q.elim
    | _ => exact k.elim
  · refine H.env rfl rfl rfl rfl rfl rfl rfl hobj.symm (fun c hc => (List.mem_cons.1 hc).elim (fun e => e ▸ r.le_refl) (H.cps c)) ?_
    have hlt : p < S.a.tmps.size := by rw [S.size]; exact Nat.le_of_ble_eq_true hp
    exact Slots.put (a := { tmps := S.a.tmps, defers := [] }) (Slots.mono (fun s c y e => S.slots s c y e) (H.cps _ hcp)) hlt (fun _ => hx) (fun hc => by cases hc)

theorem Fin_begin {S : RS E g ps as bd} {r1 : Rho} {g2 : Ctx} {a1 : Act} {d : Nat} {ops : Array Oper} {rest : List Oper} {Q1 : Exit → Act → World → Prop} (hobj : g2.objs = S.objs .ready none)
    (h : W S.E2 bd { g2 with objs := S.objs .busy none } (roundPost E.P S.l (RoundQ S a1 d ops rest Q1))) : Fin S.E2 g2 .normal (AssignQ S a1 d ops rest Q1) := by
  intro a w ⟨h1, h2, r, H⟩
  have hrec : w.heap[S.l]? = some (.loop (S.rcd .ready none)) := (H.mp.obj (S.l, _) (by rw [hobj]; exact List.mem_cons_self ..)).1
  refine ⟨_, run_beginRound hrec rfl, h _ _ ⟨h1, ?_, r, H.putHead hobj rfl rfl⟩⟩
  rw [marks_plain rfl h2]; trivial

theorem roundEnd {S : RS E g ps as bd} {r1 : Rho} {g1 g3 : Ctx} {n : Nat} {a1 : Act} {d : Nat} {b : Bool} {ops : Array Oper} {rest : List Oper} {Q1 : Exit → Act → World → Prop} {st : LoopState} {pend : Option Code} (hat : AtYield S g1 n a1 r1) (hd : Nat.ble (d + 1) n = true) {cs : List Rho} (hc3 : ∀ c, c = r1 ∨ c ∈ cs → c ∈ g3.cps)
    (hN : WL (S.E1 n) ops rest ⟨(d, true, A.bool b) :: g1.sl, g3.own, g3.rooms, g3.maps, S.objs st pend, cs⟩ Q1) (hobj : g3.objs = S.objs .busy none) {a : Act} {w : World} {r : Rho} (H : HoldsAt S.E2 g3 r a w) :
    wpListIn (fz none) 9 E.P ops Q1 rest (a1.put (some d) (.bool b)) (w.putObj S.l (.loop (S.rcd st pend))) := by
  have H2 := H.putHead hobj (o' := .loop (S.rcd st pend)) rfl rfl
  have hle : r1.le r := H.cps _ (hc3 _ (.inl rfl))
  refine hN _ _ ⟨by rw [size_put]; exact hat.size, by rw [defers_put, hat.plain]; trivial, r, ?_⟩
  refine H2.env rfl rfl rfl rfl rfl rfl rfl rfl (fun c hc => H.cps c (hc3 c (.inr hc))) ?_
  · have hlt : d < a1.tmps.size := by rw [hat.size]; exact Nat.le_of_ble_eq_true hd
    exact Slots.put (Slots.mono hat.slots hle) hlt (fun _ => rfl) (fun hc => by cases hc)

theorem Fin_roundN {S : RS E g ps as bd} {r1 : Rho} {g1 g3 : Ctx} {n : Nat} {a1 : Act} {d : Nat} {ops : Array Oper} {rest : List Oper} {Q1 : Exit → Act → World → Prop} (hat : AtYield S g1 n a1 r1) (hd : Nat.ble (d + 1) n = true) (cs : List Rho) (hc3 : ∀ c, c = r1 ∨ c ∈ cs → c ∈ g3.cps)
    (hN : WL (S.E1 n) ops rest ⟨(d, true, A.bool true) :: g1.sl, g3.own, g3.rooms, g3.maps, S.objs .ready none, cs⟩ Q1) (hobj : g3.objs = S.objs .busy none) : Fin S.E2 g3 .normal (roundPost E.P S.l (RoundQ S a1 d ops rest Q1)) := by
  intro a w ⟨h1, h2, r, H⟩
  have hrec : w.heap[S.l]? = some (.loop (S.rcd .busy none)) := (H.mp.obj (S.l, _) (by rw [hobj]; exact List.mem_cons_self ..)).1
  exact ⟨_, _, run_endRound none hrec, roundEnd hat hd hc3 hN hobj H⟩
theorem Fin_roundR {S : RS E g ps as bd} {r1 : Rho} {g1 g3 : Ctx} {n : Nat} {a1 : Act} {d : Nat} {ops : Array Oper} {rest : List Oper} {Q1 : Exit → Act → World → Prop} (hat : AtYield S g1 n a1 r1) (hd : Nat.ble (d + 1) n = true) (cs : List Rho) (hc3 : ∀ c, c = r1 ∨ c ∈ cs → c ∈ g3.cps)
    (hN : WL (S.E1 n) ops rest ⟨(d, true, A.bool false) :: g1.sl, g3.own, g3.rooms, g3.maps, S.objs .done (some .ret), cs⟩ Q1) (hobj : g3.objs = S.objs .busy none) : Fin S.E2 g3 .ret (roundPost E.P S.l (RoundQ S a1 d ops rest Q1)) := by
  intro a w ⟨h1, h2, r, H⟩
  have hrec : w.heap[S.l]? = some (.loop (S.rcd .busy none)) := (H.mp.obj (S.l, _) (by rw [hobj]; exact List.mem_cons_self ..)).1
  exact ⟨_, _, run_endRound (some .ret) hrec, roundEnd hat hd hc3 hN hobj H⟩

theorem iterEnd {S : RS E g ps as bd} {n : Nat} {g1 : Ctx} {st : LoopState} {pend : Option Code} {a : Act} {w : World} {r : Rho} (H : HoldsAt (S.E1 n) g1 r a w) (hobj : g1.objs = S.objs st pend) (hcp : ∀ c, c = S.r ∨ c ∈ g.cps → c ∈ g1.cps) :
    Holds E ⟨g.sl, g1.own, g1.rooms, g1.maps, [], g.cps⟩ S.a' (w.putObj S.l (.loop { (S.rcd st pend) with state := .exhausted })) := by
  have H2 := H.putHead hobj (o' := .loop { (S.rcd st pend) with state := .exhausted }) rfl rfl
  refine ⟨S.size, S.marks _ fun x hx => (H2.mp.obj x (List.mem_cons_of_mem _ hx)).1, r, ?_⟩
  have H3 : HoldsAt (S.E1 n) ⟨g1.sl, g1.own, g1.rooms, g1.maps, [], g1.cps⟩ r a (w.putObj S.l (.loop { (S.rcd st pend) with state := .exhausted })) := { H2 with mp := ⟨H2.mp.at_, H2.mp.un, H2.mp.base, H2.mp.nodup, fun _ h => (by cases h), List.nodup_nil⟩ }
  exact H3.env rfl rfl rfl rfl rfl rfl rfl rfl (fun c hc => H.cps c (hcp c (.inr hc))) (Slots.mono S.slots (H.cps _ (hcp _ (.inl rfl))))

theorem iterRet {S : RS E g ps as bd} {fn : Func} {Q : Exit → Act → World → Prop} (hres : fn.results = #[]) {a : Act} {w : World} (hd : a.defers = []) (h : ∀ v, rangePost (fz none) 9 E.P S.l Q S.a' (.returned v) w) {e : Exit} (he : e = .normal ∨ e = .ret) : IterPost S fn Q e a w := by
  have key : LeavesInM (fz none) 9 E.P fn a.tmps (rangePost (fz none) 9 E.P S.l Q S.a') a.defers .returning w := by
    rw [hd]
    exact ⟨_, by simp [results, hres]; rfl, h _⟩
  rcases he with rfl | rfl
  · exact key
  · exact key
/-- The iterator has come to its end. -/
theorem Fin_iterN {S : RS E g ps as bd} {fn : Func} {g1 : Ctx} {Q : Exit → Act → World → Prop} (hres : fn.results = #[]) (hobj : g1.objs = S.objs .ready none) {e : Exit} (he : e = .normal ∨ e = .ret) (hcp : ∀ c, c = S.r ∨ c ∈ g.cps → c ∈ g1.cps)
    (h : Fin E ⟨g.sl, g1.own, g1.rooms, g1.maps, [], g.cps⟩ .normal Q) : Fin (S.E1 fn.ntmps) g1 e (IterPost S fn Q) := by
  intro a w ⟨h1, h2, r, H⟩
  have hrec : w.heap[S.l]? = some (.loop (S.rcd .ready none)) := (H.mp.obj (S.l, _) (by rw [hobj]; exact List.mem_cons_self ..)).1
  refine iterRet hres (marks_plain rfl h2) (fun v => ⟨none, _, run_endLoop hrec (by simp [RS.rcd]), ?_⟩) he
  exact h _ _ (iterEnd H hobj hcp)
/-- The body has been left by a return. -/
theorem Fin_iterR {S : RS E g ps as bd} {fn : Func} {g1 : Ctx} {Q : Exit → Act → World → Prop} (hro : E.rnd = none) (hres : fn.results = #[]) (hobj : g1.objs = S.objs .done (some .ret)) {e : Exit} (he : e = .normal ∨ e = .ret) (hcp : ∀ c, c = S.r ∨ c ∈ g.cps → c ∈ g1.cps)
    (h : Fin E ⟨g.sl, g1.own, g1.rooms, g1.maps, [], g.cps⟩ .ret Q) : Fin (S.E1 fn.ntmps) g1 e (IterPost S fn Q) := by
  intro a w ⟨h1, h2, r, H⟩
  have hrec : w.heap[S.l]? = some (.loop (S.rcd .done (some .ret))) := (H.mp.obj (S.l, _) (by rw [hobj]; exact List.mem_cons_self ..)).1
  refine iterRet hres (marks_plain rfl h2) (fun v => ⟨some .ret, _, run_endLoop hrec (by simp [RS.rcd]), ?_⟩) he
  exact wpIn_ret (h _ _ (iterEnd H hobj hcp))
end
end Go.L
