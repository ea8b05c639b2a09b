import Derived.Test.YtfjggobjijeniaaFun
/-! Owned blocks: laid, written, read, frozen. -/
namespace Go.L
open Go Go.RowKit

/-- The zero value's cells of a type. -/
def zeroCellsOf (P : Program) (t : TypeId) : Option (List Value) := ((P.info? t).bind (·.zero)).map (·.cells.toList)
def TZ (P : Program) (t : TypeId) (zs : List Value) : Prop := zeroCellsOf P t = some zs
theorem TZ.run {P : Program} {t : TypeId} {zs : List Value} (h : TZ P t zs) : ∃ z, z.cells.toList = zs ∧ ∀ w, (zeroValue t).run P w = .ok z w := by
  unfold TZ zeroCellsOf at h
  cases hi : P.info? t with
  | none => simp [hi] at h
  | some i =>
    cases hz : i.zero with
    | none => simp [hi, hz] at h
    | some z =>
      simp [hi, hz] at h
      exact ⟨z, by simpa using h, fun w => by simp [zeroValue, typeInfo, hi, hz]⟩

theorem All2.vals {r : Rho} : ∀ (zs : List Value), All2 r (zs.map A.val) zs
  | [] => trivial
  | _ :: zs => ⟨rfl, All2.vals zs⟩

theorem RoomOk.lt {r : Rho} {w : World} {x : Value × Nat × Nat} (h : RoomOk r w x) {b : Nat} (hb : roomBlock x.1 = some b) : b < w.heap.size := by
  unfold RoomOk at h
  unfold roomBlock at hb
  split at hb
  · rename_i a n c e
    simp only [e] at h
    obtain ⟨_, _, _, _, ⟨vs, h5, _⟩, _⟩ := h
    cases hb
    exact (Array.getElem?_eq_some_iff.1 h5).1
  · cases hb

/-- A new owned block. -/
theorem HoldsAt.allocOwn {E : Env} {g : Ctx} {r : Rho} {a : Act} {w : World} (H : HoldsAt E g r a w) (cs : Array Value) (ty : TypeId) {cells : List A} (hc : All2 r cells cs.toList) :
    HoldsAt E { g with own := (w.heap.size, ty, cells) :: g.own } r a (w.alloc (.cells cs ty)) := by
  have gr : Grow r w r (w.alloc (.cells cs ty)) := Grow.same H.ok ((Below.refl _ _).alloc (Nat.le_refl _) _)
  have H' := H.grow gr (a' := a) H.slots
  have hnone : ∀ o s, r ⟨w.heap.size, o, s⟩ = none := fun o s => by
    cases e : r ⟨w.heap.size, o, s⟩ with
    | none => rfl
    | some v => exact absurd (Rho.ok_lt H.ok e) (by simp)
  exact { H' with
    own := fun x hx => by
      rcases List.mem_cons.1 hx with rfl | hx
      · exact ⟨hnone, cs, World.alloc_heap_new w _, hc⟩
      · exact H'.own x hx
    ownB := fun x hx => by
      rcases List.mem_cons.1 hx with rfl | hx
      · exact .inr H.size
      · exact H'.ownB x hx
    nodup := by
      rw [List.map_cons, List.nodup_cons]
      refine ⟨fun hm => ?_, H'.nodup⟩
      obtain ⟨x, hx, e⟩ := List.mem_map.1 hm
      have := (H.own x hx).lt
      omega
    roomB := fun x hx b hb => by
      have := H'.roomB x hx b hb
      refine ⟨this.1, fun hm => ?_⟩
      rw [List.map_cons, List.mem_cons] at hm
      rcases hm with rfl | hm
      · have := (H.room x hx).lt hb; omega
      · exact this.2 hm }

theorem setCell_eq {w : World} {b o : Nat} {cs : Array Value} {ty : TypeId} {v : Value} (h : w.heap[b]? = some (.cells cs ty (0, 0))) :
    w.setCell ⟨b, o, none⟩ v = w.putObj b (.cells (cs.setIfInBounds o v) ty (0, 0)) := by
  unfold World.setCell World.putObj
  congr 1
  apply Array.ext_getElem?
  intro k
  rw [Array.getElem?_modify]
  by_cases hk : b = k
  · subst hk
    obtain ⟨hlt, he⟩ := Array.getElem?_eq_some_iff.1 h
    simp [he, hlt]
  · rw [if_neg hk, Array.getElem?_setIfInBounds_ne hk]

/-- cs with vs laid over it from o on. -/
def over {S : Type} (cs : List S) (o : Nat) (vs : List S) : List S := cs.take o ++ vs ++ cs.drop (o + vs.length)
theorem over_length {S : Type} {cs vs : List S} {o : Nat} (h : o + vs.length ≤ cs.length) : (over cs o vs).length = cs.length := by
  unfold over; simp; omega

theorem over_cons {S : Type} (L : List S) (o : Nat) (v : S) (vs : List S) (h : o < L.length) : over (L.set o v) (o + 1) vs = over L o (v :: vs) := by
  unfold over
  rw [List.take_succ_eq_append_getElem (by simpa using h), List.take_set_of_le (Nat.le_refl _), List.getElem_set_self, List.drop_set_of_lt (by omega)]
  simp [Nat.add_assoc, Nat.add_comm 1]

theorem putObj_putObj {w : World} {b : Nat} {o o' : Obj} : (w.putObj b o).putObj b o' = w.putObj b o' := by
  unfold World.putObj; simp
theorem putObj_self {w : World} {b : Nat} {o : Obj} (h : w.heap[b]? = some o) : w.putObj b o = w := by
  unfold World.putObj
  have : w.heap.setIfInBounds b o = w.heap := by
    apply Array.ext_getElem?
    intro k
    by_cases hk : b = k
    · subst hk; obtain ⟨hlt, he⟩ := Array.getElem?_eq_some_iff.1 h; simp [he, hlt]
    · rw [Array.getElem?_setIfInBounds_ne hk]
  rw [this]

theorem run_storeCells {P : Program} {b off : Nat} {ty : TypeId} : ∀ (vs : List Value) (i : Nat) (cs : Array Value) (w : World), w.heap[b]? = some (.cells cs ty (0, 0)) → off + i + vs.length ≤ cs.size → (∀ v ∈ vs, v.oneCell' = true) →
    (storeCells ⟨b, off, none⟩ vs i).run P w = .ok () (w.putObj b (.cells (over cs.toList (off + i) vs).toArray ty (0, 0)))
  | [], i, cs, w, h, _, _ => by
    simp only [storeCells, Sem.run_pure]
    have : (over cs.toList (off + i) []).toArray = cs := by simp [over]
    rw [this, putObj_self h]
  | v :: vs, i, cs, w, h, hl, ho => by
    simp only [List.length_cons] at hl
    have hc : w.cell? ⟨b, off + i, none⟩ = some (cs[off + i]'(by omega)) := by
      simp [World.cell?, h]
    have hf : w.frozen? ⟨b, off + i, none⟩ = false := by simp [World.frozen?, h]
    simp only [storeCells, Sem.run_bind, add_off, run_store P w _ v .plain (ho v (by simp)), hc, hf, Bool.false_eq_true, if_false, Result.andThen_ok]
    rw [setCell_eq h]
    have hlt := (Array.getElem?_eq_some_iff.1 h).1
    rw [run_storeCells vs (i + 1) _ _ (World.putObj_heap_same hlt) (by simp; omega) (fun u hu => ho u (by simp [hu])), putObj_putObj]
    rw [Array.toList_setIfInBounds, ← Nat.add_assoc, over_cons _ _ _ _ (by simp; omega)]

/-- A value of one cell that may be stored. -/
def OneV (t : A) : Prop := ∀ r v, t.p r v → v.cells = #[v] ∧ v.oneCell' = true
theorem OneV.int {n : Int} : OneV (A.int n) := fun _ _ h => by cases h; exact ⟨rfl, rfl⟩
theorem OneV.bool {n : Bool} : OneV (A.bool n) := fun _ _ h => by cases h; exact ⟨rfl, rfl⟩
theorem OneV.ptr {x : Option Addr} : OneV (A.val (.pointer x)) := fun _ _ h => by cases h; exact ⟨rfl, rfl⟩
theorem OneV.slv {x : Option Addr} {n c : Nat} : OneV (A.val (.slice x n c)) := fun _ _ h => by cases h; exact ⟨rfl, rfl⟩
theorem OneV.sl {T : Type} {k : Nat} {f : T → List A} {L : List T} : OneV (A.sl k f L) := fun _ _ ⟨_, _, _, h, _⟩ => by rw [h]; exact ⟨rfl, rfl⟩
theorem OneV.pt {l : List A} : OneV (A.pt l) := fun _ _ ⟨_, _, h, _⟩ => by rw [h]; exact ⟨rfl, rfl⟩
/-- A value whose cells meet l, each of one cell. -/
def CellsOf (t : A) (l : List A) : Prop := ∀ r v, t.p r v → All2 r l v.cells.toList ∧ ∀ u ∈ v.cells.toList, u.oneCell' = true
theorem CellsOf.one {t : A} (h : OneV t) : CellsOf t [t] := fun r v k => by
  obtain ⟨h1, h2⟩ := h r v k
  rw [h1]
  exact ⟨⟨k, trivial⟩, by simpa using h2⟩
def AllOne : List A → Prop
  | [] => True
  | t :: l => OneV t ∧ AllOne l
theorem AllOne.all {r : Rho} : ∀ {l : List A} {vs : List Value}, AllOne l → All2 r l vs → ∀ u ∈ vs, u.oneCell' = true
  | [], [], _, _ => by simp
  | t :: l, v :: vs, h, k => by
    intro u hu
    rcases List.mem_cons.1 hu with rfl | hu
    · exact (h.1 r u k.1).2
    · exact AllOne.all h.2 k.2 u hu
  | [], _ :: _, _, k => k.elim
  | _ :: _, [], _, k => k.elim
theorem CellsOf.agg {l : List A} (h : AllOne l) : CellsOf (A.agg l) l := fun r v ⟨vs, e, k⟩ => by
  subst e
  exact ⟨k, AllOne.all h k⟩

theorem All2.over {r : Rho} {cells l : List A} {vs us : List Value} {o : Nat} (h : All2 r cells vs) (k : All2 r l us) (hle : o + l.length ≤ cells.length) : All2 r (over cells o l) (over vs o us) := by
  have h1 := h.length
  have h2 := k.length
  have ha : All2 r (cells.take o) (vs.take o) := by
    have : cells = cells.take o ++ cells.drop o := (List.take_append_drop o cells).symm
    rw [this] at h
    have := h.split.1
    rwa [List.length_take, Nat.min_eq_left (by omega)] at this
  have hb : All2 r (cells.drop (o + l.length)) (vs.drop (o + us.length)) := by
    have : cells = cells.take (o + l.length) ++ cells.drop (o + l.length) := (List.take_append_drop _ cells).symm
    rw [this] at h
    have := h.split.2
    rw [List.length_take, Nat.min_eq_left (by omega)] at this
    rwa [← h2]
  exact (ha.append k).append hb

/-- An owned block is written. -/
theorem HoldsAt.putOwn {E : Env} {g : Ctx} {r : Rho} {a : Act} {w : World} (H : HoldsAt E g r a w) {i b ty : Nat} {cells cells' : List A} (hi : g.own[i]? = some (b, ty, cells)) {cs : Array Value}
    (hc : All2 r cells' cs.toList) :
    HoldsAt E { g with own := g.own.set i (b, ty, cells') } r a (w.putObj b (.cells cs ty (0, 0))) := by
  have hmem := List.mem_of_getElem? hi
  have hb := H.own _ hmem
  have hlt := hb.lt
  have hne : ∀ x ∈ g.own.set i (b, ty, cells'), x = (b, ty, cells') ∨ (x ∈ g.own ∧ x.1 ≠ b) := by
    intro x hx
    obtain ⟨j, hj, e⟩ := List.getElem_of_mem hx
    rw [List.getElem_set] at e
    by_cases hij : i = j
    · rw [if_pos hij] at e; exact .inl e.symm
    · rw [if_neg hij] at e
      have hj' : j < g.own.length := by simpa using hj
      refine .inr ⟨e ▸ List.getElem_mem hj', fun hxb => hij ?_⟩
      have hil : i < g.own.length := (List.getElem?_eq_some_iff.1 hi).1
      refine (List.getElem?_inj (by simpa using hil) H.nodup).1 ?_
      rw [List.getElem?_map, hi, List.getElem?_map, List.getElem?_eq_getElem hj', e]
      simp [hxb]
  have hmap : (g.own.set i (b, ty, cells')).map (·.1) = g.own.map (·.1) := by
    rw [List.map_set]
    apply List.ext_getElem?
    intro k
    rw [List.getElem?_set]
    split
    · rename_i e; subst e; simp [hi]; exact (List.getElem?_eq_some_iff.1 hi).1
    · rfl
  have other : ∀ k, k ≠ b → (w.putObj b (.cells cs ty (0, 0))).heap[k]? = w.heap[k]? := fun k hk => World.putObj_heap_other hk
  have hX : E.base b := H.ownB _ hmem
  exact {
    le := H.le
    cps := H.cps
    ok := fun x v e => by
      have hxb : x.block ≠ b := fun e' => by
        have := hb.1 x.off x.spot
        rw [← e'] at this
        have e2 : r x = none := this
        rw [e2] at e; cases e
      rw [other _ hxb]; exact H.ok x v e
    fresh := fun x v e => (H.fresh x v e).elim .inl fun q => .inr ⟨q.1, by
      by_cases hxb : x.block = b
      · intro cs' ty' fr e'
        rw [hxb, World.putObj_heap_same hlt] at e'; cases e'; rfl
      · exact q.2.same (other _ hxb)⟩
    size := by rw [World.putObj_size]; exact H.size
    block := fun k hk hx => by
      have hkb : k ≠ b := fun e => by subst e; rcases hX with q | q; exact hx q; omega
      rw [other k hkb]; exact H.block k hk hx
    unf := fun k hk hu => by
      by_cases hkb : k = b
      · intro cs' ty' fr e'
        rw [hkb, World.putObj_heap_same hlt] at e'; cases e'; rfl
      · exact (H.unf k hk hu).same (other k hkb)
    os := H.os
    tape := H.tape
    output := H.output
    slots := H.slots
    own := fun x hx => by
      rcases hne x hx with rfl | ⟨h1, h2⟩
      · exact ⟨hb.1, cs, World.putObj_heap_same hlt, hc⟩
      · obtain ⟨k1, vs, k2, k3⟩ := H.own x h1
        exact ⟨k1, vs, by rw [other _ h2]; exact k2, k3⟩
    ownB := fun x hx => by
      rcases hne x hx with rfl | ⟨h1, _⟩
      · exact hX
      · exact H.ownB x h1
    nodup := by rw [hmap]; exact H.nodup
    room := fun x hx => by
      have := H.room x hx
      have hnb : ∀ b', roomBlock x.1 = some b' → b' ≠ b := fun b' e e' => by
        subst e'
        exact (H.roomB x hx _ e).2 (List.mem_map.2 ⟨_, hmem, rfl⟩)
      unfold RoomOk at this ⊢
      split at this
      · exact this
      · rename_i ad n c e
        obtain ⟨h1, h2, h3, h4, ⟨vs, h5, h6⟩, h7⟩ := this
        exact ⟨h1, h2, h3, h4, ⟨vs, by rw [other _ (hnb _ (by rw [e]; rfl))]; exact h5, h6⟩, h7⟩
      · exact this
    roomB := fun x hx b' e => by rw [hmap]; exact H.roomB x hx b' e
    roomN := H.roomN
    mp := H.mp.stay (fun _ _ h => h) H.mp.un fun k o ho hk => by
      have hkb : k ≠ b := fun e => by
        subst e
        obtain ⟨_, vs, k2, _⟩ := hb
        rw [k2] at hk; cases hk; cases ho
      rw [other k hkb]; exact hk }

theorem Marks.putOwn {E : Env} {w : World} {b : Nat} {o : Obj} (hb : ∀ ds, w.heap[b]? ≠ some (.deferred ds)) : ∀ {l : List Deferred}, Marks E w l → Marks E (w.putObj b o) l
  | [], _ => trivial
  | _ :: _, ⟨⟨b', h1, h2, h3, h4⟩, k⟩ => ⟨⟨b', h1, h2, by rw [World.putObj_heap_other (fun e => by subst e; exact hb _ h3)]; exact h3, h4⟩, Marks.putOwn hb k⟩

section
variable {E : Env} {g : Ctx} {Q : Exit → Act → World → Prop} {ops : Array Oper} {rest : List Oper}

theorem wpListIn_value {F : Fence} {n : Nat} {P : Program} {o : Oper} {a : Act} {w w' : World} {v : Value} (hg : o.guard = none) (hd : ∀ c, o.op ≠ .defer c) (hF : ∀ f, F.fn f) (h : (execOp a.eval o).run P w = .ok (.value v) w')
    (k : wpListIn F n P ops Q rest (a.put o.dst v) w') : wpListIn F n P ops Q (o :: rest) a w :=
  wpListIn_plain hg fun K hK => by
    refine ⟨fun f _ => hF f, ?_⟩
    rw [Oper.semAt_eq _ _ _ hd, h]
    exact hK _ _ k
theorem wpListIn_unit {F : Fence} {n : Nat} {P : Program} {o : Oper} {a : Act} {w w' : World} (hg : o.guard = none) (hd : ∀ c, o.op ≠ .defer c) (hF : ∀ f, F.fn f) (h : (execOp a.eval o).run P w = .ok .skip w')
    (k : wpListIn F n P ops Q rest (a.put o.dst undef) w') : wpListIn F n P ops Q (o :: rest) a w :=
  wpListIn_plain hg fun K hK => by
    refine ⟨fun f _ => hF f, ?_⟩
    rw [Oper.semAt_eq _ _ _ hd, h]
    exact hK _ _ k

/-- A variable of the function's own. -/
theorem WL_alloc {d T : Nat} {ty : TypeId} {pos : String} {aft : Array Edge} {zs : List Value} (hz : TZ E.P T zs) (hd : Nat.ble (d + 1) E.n = true)
    (h : ∀ b, WL E ops rest { g with sl := (d, true, A.val (.pointer (some ⟨b, 0, none⟩))) :: g.sl, own := (b, T, zs.map A.val) :: g.own } Q) :
    WL E ops (⟨some d, .alloc T, ty, pos, aft, none⟩ :: rest) g Q := by
  intro a w ⟨h1, h2, r, H⟩
  obtain ⟨z, hzc, hzr⟩ := hz.run
  have hrun : (execOp a.eval ⟨some d, .alloc T, ty, pos, aft, none⟩).run E.P w = .ok (.value (.pointer (some ⟨w.heap.size, 0, none⟩))) (w.alloc (.cells z.cells T)) := by
    simp [execOp, Instr.alloc, hzr, run_newVar]
  refine wpListIn_value rfl (by simp) (fun _ => trivial) hrun (h w.heap.size _ _ ⟨by rw [size_put]; exact h1, ?_, r, ?_⟩)
  · rw [defers_put]
    exact h2.grow H (Grow.same H.ok ((Below.refl _ _).alloc (Nat.le_refl _) _))
  · have hlt : d < a.tmps.size := by rw [h1]; exact Nat.le_of_ble_eq_true hd
    have H' := H.allocOwn z.cells T (cells := zs.map A.val) (by rw [hzc]; exact All2.vals zs)
    exact { H' with slots := Slots.put H'.slots hlt (fun _ => rfl) (fun hc => by cases hc) }

/-- A store into an owned block. -/
theorem WL_store (i : Nat) {T : Nat} {ad x : Operand} {ty : TypeId} {pos : String} {aft : Array Edge} {b tb off : Nat} {cells l : List A} {t : A} (hi : g.own[i]? = some (b, tb, cells))
    (hr : Reads g.sl true [(true, ad, A.val (.pointer (some ⟨b, off, none⟩))), (true, x, t)]) (hc : CellsOf t l) (hs : sizeAt E.P T = some l.length) (hle : off + l.length ≤ cells.length)
    (h : WL E ops rest { g with own := g.own.set i (b, tb, over cells off l) } Q) :
    WL E ops (⟨none, .store T ad x, ty, pos, aft, none⟩ :: rest) g Q := by
  intro a w ⟨h1, h2, r, H⟩
  have hu := hr.use rfl H.slots
  have had : a.eval ad = .pointer (some ⟨b, off, none⟩) := hu (true, ad, A.val (.pointer (some ⟨b, off, none⟩))) (by simp) rfl
  have hx : t.p r (a.eval x) := hu (true, x, t) (by simp) rfl
  obtain ⟨k1, k2⟩ := hc r _ hx
  have hown := H.own _ (List.mem_of_getElem? hi)
  obtain ⟨ho, vs, hb, hv⟩ := hown
  have hl1 := k1.length
  have hl2 := hv.length
  have hrun : (execOp a.eval ⟨none, .store T ad x, ty, pos, aft, none⟩).run E.P w = .ok .skip (w.putObj b (.cells (over vs.toList off (a.eval x).cells.toList).toArray tb (0, 0))) := by
    have hsz : (a.eval x).cells.size = l.length := by rw [hl1]; simp
    have := run_storeCells (P := E.P) (off := off) (a.eval x).cells.toList 0 vs w hb (by simp at hl1 hl2 ⊢; omega) k2
    simp only [Nat.add_zero] at this
    simp [execOp, had, Instr.storeAt, Instr.sureAddr, storeVar, run_sizeOf hs, hsz, this]
  refine wpListIn_unit rfl (by simp) (fun _ => trivial) hrun (h _ _ ⟨h1, ?_, r, ?_⟩)
  · exact h2.putOwn (fun ds e => by rw [hb] at e; cases e)
  · refine H.putOwn hi (cells' := over cells off l) ?_ 
    have := hv.over (o := off) k1 hle
    simpa using this

/-- What the frozen block's cells give to a slot. -/
theorem WL_freeze {l : List Oper} (i : Nat) {b tb : Nat} {cells : List A} (hi : g.own[i]? = some (b, tb, cells)) (s : Nat) {v : Value} {u : A} (hs : look g.sl s = some (true, A.val v))
    (hu : ∀ r, (∀ c ∈ g.cps, c.le r ∧ ∀ o s, c ⟨b, o, s⟩ = none) → A.CellsAt r b 0 cells → u.p r v) (h : WL E ops l { g with sl := (s, true, u) :: g.sl, own := g.own.eraseIdx i } Q) : WL E ops l g Q := by
  intro a w ⟨h1, h2, r, H⟩
  have hmem := List.mem_of_getElem? hi
  obtain ⟨ho, vs, hb, hv⟩ := H.own _ hmem
  have hge : E.base b := H.ownB _ hmem
  have hunf : Unf w b := fun cs' ty' fr e => by rw [hb] at e; cases e; rfl
  let r' : Rho := fun x => if x.block = b ∧ x.spot = none then vs[x.off]? else r x
  have hle : r.le r' := fun x v e => by
    show (if _ then _ else _) = _
    rw [if_neg]; exact e
    rintro ⟨e1, e2⟩
    have := ho x.off none
    have e3 : x = ⟨b, x.off, none⟩ := by cases x; simp_all
    rw [e3, this] at e; cases e
  have hsub : ∀ x ∈ g.own.eraseIdx i, x ∈ g.own ∧ x.1 ≠ b := by
    intro x hx
    refine ⟨List.mem_of_mem_eraseIdx hx, fun e => ?_⟩
    obtain ⟨j, hj, e'⟩ := List.mem_eraseIdx_iff_getElem?.1 hx
    have hil : i < g.own.length := (List.getElem?_eq_some_iff.1 hi).1
    refine hj ((List.getElem?_inj (by simpa using hil) H.nodup).1 ?_).symm
    rw [List.getElem?_map, hi, List.getElem?_map, e']
    simp [e]
  have hother : ∀ x : Addr, x.block ≠ b → r' x = r x := fun x hx => by
    show (if _ then _ else _) = _
    rw [if_neg (fun q => hx q.1)]
  have hcell : ∀ (k : Nat), r' ⟨b, k, none⟩ = vs[k]? := fun k => by
    show (if _ then _ else _) = _
    rw [if_pos ⟨rfl, rfl⟩]
  have hat : A.CellsAt r' b 0 cells := fun k c hk => by
    obtain ⟨y, hy, hp⟩ := hv.get k c hk
    exact ⟨y, by rw [hcell, Nat.zero_add]; simpa using hy, c.mono hle hp⟩
  refine h a w ⟨h1, h2, r', ?_⟩
  exact {
    le := H.le.trans_le hle
    cps := fun c hc => Rho.le_trans (H.cps c hc) hle
    ok := fun x y e => by
      by_cases q : x.block = b ∧ x.spot = none
      · have e : (if x.block = b ∧ x.spot = none then vs[x.off]? else r x) = some y := e
        rw [if_pos q] at e
        unfold gc
        rw [q.1, hb]
        simp [q.2, e]
      · have e : (if x.block = b ∧ x.spot = none then vs[x.off]? else r x) = some y := e
        rw [if_neg q] at e
        exact H.ok x y e
    fresh := fun x y e => by
      by_cases q : x.block = b ∧ x.spot = none
      · exact .inr ⟨q.1 ▸ hge, q.1 ▸ hunf⟩
      · have e : (if x.block = b ∧ x.spot = none then vs[x.off]? else r x) = some y := e
        rw [if_neg q] at e
        exact H.fresh x y e
    size := H.size
    block := H.block
    unf := H.unf
    os := H.os
    tape := H.tape
    output := H.output
    slots := fun s' c x e => by
      unfold look at e
      by_cases q : s = s'
      · subst q
        simp at e
        obtain ⟨rfl, rfl⟩ := e
        refine ⟨fun _ => ?_, fun e => by cases e⟩
        have : a.tmps.getD s undef = v := (H.slots s true _ hs).1 rfl
        rw [this]
        refine hu r' (fun c hc => ⟨Rho.le_trans (H.cps c hc) hle, fun o sp => ?_⟩) hat
        cases e2 : c ⟨b, o, sp⟩ with
        | none => rfl
        | some y => have e3 := H.cps c hc _ _ e2; rw [ho o sp] at e3; cases e3
      · rw [if_neg (by simpa using q)] at e
        have := H.slots s' c x e
        exact ⟨fun hc => x.mono hle (this.1 hc), this.2⟩
    own := fun x hx => by
      obtain ⟨q1, q2⟩ := hsub x hx
      obtain ⟨k1, vs', k2, k3⟩ := H.own x q1
      exact ⟨fun o sp => by rw [hother _ q2]; exact k1 o sp, vs', k2, k3.mono hle⟩
    ownB := fun x hx => H.ownB x (hsub x hx).1
    nodup := H.nodup.sublist ((List.eraseIdx_sublist g.own i).map _)
    room := fun x hx => by
      have := H.room x hx
      have hnb : ∀ b', roomBlock x.1 = some b' → b' ≠ b := fun b' e e' => by
        subst e'
        exact (H.roomB x hx _ e).2 (List.mem_map.2 ⟨_, hmem, rfl⟩)
      unfold RoomOk at this ⊢
      split at this
      · exact this
      · rename_i ad n c e
        obtain ⟨h1, h2, h3, h4, h5, h7⟩ := this
        exact ⟨h1, h2, h3, h4, h5, fun o sp ho => by rw [hother _ (hnb _ (by rw [e]; rfl))]; exact h7 o sp ho⟩
      · exact this
    roomB := fun x hx b' e => ⟨(H.roomB x hx b' e).1, fun hm => (H.roomB x hx b' e).2 (by
      obtain ⟨y, hy, e2⟩ := List.mem_map.1 hm
      exact List.mem_map.2 ⟨y, (hsub y hy).1, e2⟩)⟩
    roomN := H.roomN
    mp := H.mp.stay hle (fun x hx o sp => by
      have hne : x.1 ≠ b := fun e => by
        obtain ⟨arr, cl, h1, _⟩ := H.mp.at_ x hx
        rw [e, hb] at h1; cases h1
      rw [hother _ hne]; exact H.mp.un x hx o sp) fun _ _ _ h => h }

/-- A loaded cell of an owned block. -/
theorem O_loado (i : Nat) {P : Program} {own : OC} {ty T : TypeId} {x : Operand} {b tb off : Nat} {cells : List A} {c : A} (h : TA P T) (hi : own.own[i]? = some (b, tb, cells)) (hc : cells[off]? = some c) :
    OpN P own [(true, x, A.val (.pointer (some ⟨b, off, none⟩)))] (.load T x) ty c := fun r w a hok hown hn => by
  have hx : a.eval x = .pointer (some ⟨b, off, none⟩) := hn (true, x, _) (List.mem_singleton.2 rfl) rfl
  obtain ⟨_, vs, hb, hv⟩ := hown.own _ (List.mem_of_getElem? hi)
  obtain ⟨v, hv1, hp⟩ := hv.get off c hc
  have hcell : w.cell? ⟨b, off, none⟩ = some v := by
    have : vs[off]? = some v := by simpa using hv1
    simp [World.cell?, hb, this]
  simp only [exec, execOp, hx, Sem.run_bind, run_loadAt_atom h hcell, Result.andThen_ok, Sem.run_pure]
  exact Good.here hok hp
theorem O_loadog (i : Nat) {P : Program} {own : OC} {ty T n : TypeId} {x : Operand} {b tb off : Nat} {cells : List A} (h : TG P T n) (hi : own.own[i]? = some (b, tb, cells)) (hl : off + n ≤ cells.length) :
    OpN P own [(true, x, A.val (.pointer (some ⟨b, off, none⟩)))] (.load T x) ty (A.agg ((cells.drop off).take n)) := fun r w a hok hown hn => by
  have hx : a.eval x = .pointer (some ⟨b, off, none⟩) := hn (true, x, _) (List.mem_singleton.2 rfl) rfl
  obtain ⟨_, vs, hb, hv⟩ := hown.own _ (List.mem_of_getElem? hi)
  have hlen := hv.length
  have h3 : All2 r ((cells.drop off).take n) ((vs.toList.drop off).take n) := by
    have e1 : cells = cells.take off ++ cells.drop off := (List.take_append_drop off cells).symm
    rw [e1] at hv
    have h1 := hv.split.2
    rw [List.length_take, Nat.min_eq_left (by omega)] at h1
    have e2 : cells.drop off = (cells.drop off).take n ++ (cells.drop off).drop n := (List.take_append_drop n _).symm
    rw [e2] at h1
    have h2 := h1.split.1
    rwa [List.length_take, Nat.min_eq_left (by simp; omega)] at h2
  have hrun := run_loadAt_agg (w := w) h (a := ⟨b, off, none⟩) (cs := (vs.toList.drop off).take n) (by simp at hlen ⊢; omega) (fun j v hj => by
    rw [add_off]
    have hj' : vs[off + j]? = some v := by
      rw [List.getElem?_take] at hj
      split at hj
      · rw [List.getElem?_drop] at hj; simpa using hj
      · cases hj
    simp [World.cell?, hb, hj'])
  simp only [exec, execOp, hx, Sem.run_bind, hrun, Result.andThen_ok, Sem.run_pure]
  exact Good.here hok ⟨_, rfl, h3⟩
end
end Go.L
