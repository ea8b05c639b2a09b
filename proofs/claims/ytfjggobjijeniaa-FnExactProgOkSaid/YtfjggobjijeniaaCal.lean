import Derived.Test.YtfjggobjijeniaaRangeF
/-! Calls: of functions that return new memory, with owned blocks lent, with memory handed over, of functions that write numbers into what they are handed. -/
namespace Go.L
open Go Go.RowKit

section
variable {P : Program} {own : OC} {ty : TypeId} {f : FuncId} {xs : List Operand} {ts us : List A} {t : A} {tt : Array TypeId}
theorem run_callf {w : World} {a : Act} (hf : CallF P f) : (exec a (.call { callee := .value (.func f), args := xs.toArray, argTypes := tt }) ty).run P w = .ok (.enter f (xs.map a.eval).toArray) w := by
  have e : a.eval (.func f) = .func (.func f) #[] #[] := rfl
  simp only [exec, execOp, resolve, Sem.run_bind, Sem.run_pure, Result.andThen_ok, e, Deferred.ofValue, invoke]
  simp only [List.map_toArray, Array.empty_append, Array.append_empty, hf w _]

/-- A call of a function whose result is new memory. -/
theorem O_callN (c : Rho) (hc : c ∈ own.cps) (hf : CallF P f) (h : FnN P f ts t) (hl : xs.length = ts.length) :
    OpN P own ((xs.zip ts).map fun z => (true, z.1, z.2)) (.call { callee := .value (.func f), args := xs.toArray, argTypes := tt }) ty (A.nw c t) := fun r w a hok ho hn => by
  rw [run_callf hf]
  refine ⟨rfl, (h r w _ hok (all2_args hl hn)).mono ?_⟩
  rintro e w' ⟨v, s, h1, h2, h3, h4⟩
  have hcr := ho.cps c hc
  exact ⟨v, s, h1, h2, Rho.le_trans hcr h3, t.mono (Rho.minus_anti hcr) h4⟩

/-- The blocks of O, read as they lie. -/
def LendOk (O : Own) (r : Rho) : Prop := ∀ x ∈ O, A.CellsAt r x.1 0 x.2.2
/-- What is said of values where the blocks of O are read. -/
def Lend (O : Own) (u t : A) : Prop := ∀ r v, LendOk O r → u.p r v → t.p r v
theorem Lend.imp {O : Own} {u t : A} (h : Imp u t) : Lend O u t := fun r v _ k => h r v k
theorem Lend.refl {O : Own} {u : A} : Lend O u u := fun _ _ _ k => k
def AllLend (O : Own) : List A → List A → Prop
  | [], [] => True
  | u :: us, t :: ts => Lend O u t ∧ AllLend O us ts
  | _, _ => False
theorem AllLend.all2 {O : Own} {r : Rho} (hO : LendOk O r) : ∀ {us ts : List A} {vs : List Value}, AllLend O us ts → All2 r us vs → All2 r ts vs
  | [], [], _, _, k => k
  | _ :: _, _ :: _, _ :: _, h, k => ⟨h.1 r _ hO k.1, AllLend.all2 hO h.2 k.2⟩
  | _ :: _, _ :: _, [], _, k => k.elim
  | [], _ :: _, _, h, _ => h.elim
  | _ :: _, [], _, h, _ => h.elim
theorem AllLend.length {O : Own} : ∀ {us ts : List A}, AllLend O us ts → us.length = ts.length
  | [], [], _ => rfl
  | _ :: _, _ :: _, h => by simp [AllLend.length h.2]
  | [], _ :: _, h => h.elim
  | _ :: _, [], h => h.elim

/-- The ghost heap with owned blocks read as they lie. -/
def Rho.with (r : Rho) (O : Own) (w : World) : Rho := fun x => if x.spot = none ∧ x.block ∈ O.map (·.1) then gc w.heap[x.block]? x else r x
theorem Rho.with_spec {r : Rho} {O : Own} {w : World} (hok : r.ok w) (ho : OwnOk r w O) : (r.with O w).ok w ∧ r.le (r.with O w) ∧ LendOk O (r.with O w) := by
  have hle : r.le (r.with O w) := fun x v e => by
    unfold Rho.with
    rw [if_neg]
    · exact e
    · rintro ⟨_, h2⟩
      obtain ⟨y, hy, e2⟩ := List.mem_map.1 h2
      have := (ho y hy).1 x.off x.spot
      have e3 : x = ⟨y.1, x.off, x.spot⟩ := by rw [e2]
      rw [e3, this] at e; cases e
  refine ⟨fun x v e => ?_, hle, fun y hy i c hi => ?_⟩
  · unfold Rho.with at e
    split at e
    · exact e
    · exact hok x v e
  · obtain ⟨_, vs, h2, h3⟩ := ho y hy
    obtain ⟨v, hv, hp⟩ := h3.get i c hi
    refine ⟨v, ?_, c.mono hle hp⟩
    unfold Rho.with
    rw [if_pos ⟨rfl, List.mem_map.2 ⟨y, hy, rfl⟩⟩]
    show gc w.heap[y.1]? ⟨y.1, 0 + i, none⟩ = some v
    rw [h2, Nat.zero_add]
    simpa [gc] using hv

def nth {S : Type} : List S → Nat → Option S
  | [], _ => none
  | x :: _, 0 => some x
  | _ :: l, i + 1 => nth l i
theorem nth_eq {S : Type} : ∀ {l : List S} {i : Nat}, nth l i = l[i]?
  | [], _ => by simp [nth]
  | _ :: _, 0 => by simp [nth]
  | _ :: l, i + 1 => by simp [nth, nth_eq (l := l)]
def picks {S : Type} : List Nat → List S → List S
  | [], _ => []
  | i :: io, l => match nth l i with
    | some x => x :: picks io l
    | none => picks io l
theorem picks_eq {S : Type} : ∀ {io : List Nat} {l : List S}, picks io l = io.filterMap fun i => l[i]?
  | [], _ => rfl
  | i :: io, l => by
    unfold picks
    rw [List.filterMap_cons, nth_eq, picks_eq]
    split <;> rename_i h <;> rw [h]
theorem mem_picks' {S : Type} {io : List Nat} {l : List S} {x : S} (h : x ∈ picks io l) : ∃ i, i ∈ io ∧ l[i]? = some x := by
  rw [picks_eq] at h
  exact List.mem_filterMap.1 h
theorem mem_picks {S : Type} {io : List Nat} {l : List S} {x : S} (h : x ∈ picks io l) : x ∈ l := by
  obtain ⟨i, _, e⟩ := mem_picks' h
  exact List.mem_of_getElem? e

/-- A call with owned blocks lent. -/
theorem O_callL (io : List Nat) (c : Rho) (hc : c ∈ own.cps) (hf : CallF P f) (h : FnN P f ts t) (hl : xs.length = us.length) (hL : AllLend (picks io own.own) us ts) :
    OpN P own ((xs.zip us).map fun z => (true, z.1, z.2)) (.call { callee := .value (.func f), args := xs.toArray, argTypes := tt }) ty (A.nw c t) := fun r w a hok ho hn => by
  rw [run_callf hf]
  have hO : OwnOk r w (picks io own.own) := fun x hx => ho.own x (mem_picks hx)
  obtain ⟨k1, k2, k3⟩ := Rho.with_spec hok hO
  refine ⟨rfl, (h _ w _ k1 (hL.all2 k3 ((all2_args hl hn).mono k2))).mono ?_⟩
  rintro e w' ⟨v, s, h1, h2, h3, h4⟩
  have hcr := ho.cps c hc
  let s2 : Rho := fun x => match r x with | some u => some u | none => (s.minus (r.with (picks io own.own) w)) x
  have hrs : r.le s2 := fun x u e => by show (match r x with | some u => some u | none => _) = _; rw [e]
  refine ⟨v, s2, h1, ⟨hrs, fun x u e => ?_, fun x u e => ?_, h2.below⟩, Rho.le_trans hcr hrs, t.mono (fun x u e => ?_) h4⟩
  · have e : (match r x with | some u => some u | none => (s.minus (r.with (picks io own.own) w)) x) = some u := e
    cases hr : r x with
    | some u' => rw [hr] at e; cases e; rw [h2.below.block _ (Rho.ok_lt hok hr)]; exact hok _ _ hr
    | none => rw [hr] at e; exact h2.ok _ _ (Rho.minus_le _ _ _ _ e)
  · have e : (match r x with | some u => some u | none => (s.minus (r.with (picks io own.own) w)) x) = some u := e
    cases hr : r x with
    | some u' => rw [hr] at e; exact .inl e
    | none =>
      rw [hr] at e
      refine .inr ((h2.fresh x u (Rho.minus_le _ _ _ _ e)).resolve_left fun q => ?_)
      unfold Rho.minus at e
      simp only [q] at e
      cases e
  · have hw : (r.with (picks io own.own) w) x = none := by
      unfold Rho.minus at e; split at e
      · assumption
      · cases e
    have hr : r x = none := by
      cases hr : r x with
      | none => rfl
      | some u' => have := k2 _ _ hr; rw [hw] at this; cases this
    have hcn : c x = none := by
      cases hcx : c x with
      | none => rfl
      | some u' => have := hcr _ _ hcx; rw [hr] at this; cases this
    show (s2.minus c) x = some u
    unfold Rho.minus
    rw [if_pos hcn]
    show (match r x with | some u => some u | none => (s.minus (r.with (picks io own.own) w)) x) = some u
    rw [hr]; exact e
/-- The same where the result is known of any ghost heap. -/
theorem OpN.pureNw {need : Need} {op : Op} {c : Rho} (hp : Pure t) (h : OpN P own need op ty (A.nw c t)) : OpN P own need op ty t := fun r w a hok ho hn => by
  have := h r w a hok ho hn
  generalize (exec a op ty).run P w = res at this
  cases res with
  | halt x w1 => exact this.elim
  | ok n w1 =>
    cases n with
    | value v => obtain ⟨s, g, k⟩ := this; exact ⟨s, g, hp _ _ _ k.2⟩
    | enter f args =>
      obtain ⟨e, k⟩ := this
      exact ⟨e, k.mono fun _ _ ⟨v, s, h1, h2, h3⟩ => ⟨v, s, h1, h2, hp _ _ _ h3.2⟩⟩
    | _ => exact this.elim
end

theorem nodup_append_of {S : Type} {l m : List S} (h1 : l.Nodup) (h2 : m.Nodup) (h : ∀ x ∈ l, x ∉ m) : (l ++ m).Nodup := by
  rw [List.nodup_append]
  exact ⟨h1, h2, fun a ha b hb e => h a ha (e ▸ hb)⟩

def memN (i : Nat) : List Nat → Bool
  | [] => false
  | j :: l => match Nat.beq i j with
    | true => true
    | false => memN i l
theorem memN_iff {i : Nat} : ∀ {l : List Nat}, memN i l = true ↔ i ∈ l
  | [] => by simp [memN]
  | j :: l => by
    unfold memN
    split
    · rename_i h; simp [Nat.eq_of_beq_eq_true h]
    · rename_i h
      rw [memN_iff, List.mem_cons]
      have : i ≠ j := fun e => by subst e; simp at h
      simp [this]
def othersAt {S : Type} (io : List Nat) : Nat → List S → List S
  | _, [] => []
  | i, x :: l => match memN i io with
    | true => othersAt io (i + 1) l
    | false => x :: othersAt io (i + 1) l
def others {S : Type} (io : List Nat) (l : List S) : List S := othersAt io 0 l
theorem mem_othersAt {S : Type} {io : List Nat} {x : S} : ∀ {l : List S} {k : Nat}, x ∈ othersAt io k l → ∃ i, k + i ∉ io ∧ l[i]? = some x
  | [], _, h => by cases h
  | y :: l, k, h => by
    unfold othersAt at h
    split at h
    · obtain ⟨i, h1, h2⟩ := mem_othersAt h
      exact ⟨i + 1, by rwa [show k + (i + 1) = k + 1 + i from by omega], by simpa using h2⟩
    · rename_i hm
      rcases List.mem_cons.1 h with rfl | h
      · refine ⟨0, fun hk => ?_, by simp⟩
        rw [Nat.add_zero] at hk; rw [memN_iff.2 hk] at hm; cases hm
      · obtain ⟨i, h1, h2⟩ := mem_othersAt h
        exact ⟨i + 1, by rwa [show k + (i + 1) = k + 1 + i from by omega], by simpa using h2⟩
theorem mem_others {S : Type} {io : List Nat} {l : List S} {x : S} (h : x ∈ others io l) : ∃ i, i ∉ io ∧ l[i]? = some x := by
  obtain ⟨i, h1, h2⟩ := mem_othersAt h
  exact ⟨i, by rwa [Nat.zero_add] at h1, h2⟩
theorem othersAt_sub {S : Type} (io : List Nat) : ∀ (l : List S) (k : Nat), (othersAt io k l).Sublist l
  | [], _ => List.nil_sublist _
  | y :: l, k => by
    unfold othersAt
    split
    · exact (othersAt_sub io l _).cons _
    · exact (othersAt_sub io l _).cons_cons _
theorem others_sub {S : Type} (io : List Nat) (l : List S) : (others io l).Sublist l := othersAt_sub io l 0
/-- Picked and others have no block in common. -/
theorem picks_others {S : Type} {f : S → Option Nat} {io : List Nat} {l : List S} (hn : (l.filterMap f).Nodup) {x y : S} (hx : x ∈ picks io l) (hy : y ∈ others io l) {b : Nat} (hbx : f x = some b) (hby : f y = some b) : False := by
  obtain ⟨i, hi, e⟩ := mem_picks' hx
  obtain ⟨j, hj, e'⟩ := mem_others hy
  have := nodup_filterMap_get hn e e' hbx hby
  subst this
  exact hj hi

theorem filterMap_some_map {S T : Type} (f : S → T) (l : List S) : l.filterMap (fun x => some (f x)) = l.map f := by
  induction l with
  | nil => rfl
  | cons x l ih => simp

section
variable {E : Env} {g : Ctx} {Q : Exit → Act → World → Prop} {ops : Array Oper} {rest : List Oper}

/-- Another list of the owned blocks, none new. -/
theorem HoldsAt.reown {r : Rho} {a : Act} {w : World} (H : HoldsAt E g r a w) {own' : Own} (h : ∀ x ∈ own', x ∈ g.own) (hn : (own'.map (·.1)).Nodup) : HoldsAt E { g with own := own' } r a w :=
  { H with own := fun x hx => H.own x (h x hx), ownB := fun x hx => H.ownB x (h x hx), nodup := hn, roomB := fun x hx b hb => ⟨(H.roomB x hx b hb).1, fun hm => (H.roomB x hx b hb).2 (by
      obtain ⟨y, hy, e⟩ := List.mem_map.1 hm
      exact List.mem_map.2 ⟨y, h y hy, e⟩)⟩ }

/-- What is left behind a call that was handed memory. -/
theorem HoldsAt.callX {T : Type} {r s : Rho} {a a' : Act} {w w' : World} (H : HoldsAt E g r a w) (io ir im : List Nat) {m : Mem} {m' : T → Mem} {x : T} {av : List (Nat × Bool × A)}
    (ho : OSub m.own (picks io g.own)) (hr : m.rooms = picks ir g.rooms) (hm : m.maps = picks im g.maps) (gx : GrowX m.blk r w s w') (mx : MemOk s w' (m' x)) (bx : ∀ b, (m' x).blk b → m.blk b ∨ w.heap.size ≤ b) (hs : Slots s a' av) :
    HoldsAt E { g with sl := av, own := (m' x).own ++ others io g.own, rooms := (m' x).rooms ++ others ir g.rooms, maps := (m' x).maps ++ others im g.maps } s a' w' := by
  have ownlt : ∀ y ∈ g.own, y.1 < w.heap.size := fun y hy => (H.own y hy).lt
  have roomlt : ∀ y ∈ g.rooms, ∀ b, roomBlock y.1 = some b → b < w.heap.size := fun y hy b hb => (H.room y hy).lt hb
  have maplt : ∀ y ∈ g.maps, y.1 < w.heap.size := fun y hy => (H.mp.at_ y hy).lt
  have rcells : ∀ y ∈ g.rooms, ∀ b, roomBlock y.1 = some b → ∃ vs ty, w.heap[b]? = some (.cells vs ty (0, 0)) := fun y hy b hb => by
    have := H.room y hy
    unfold RoomOk at this
    unfold roomBlock at hb
    split at hb
    · rename_i ad n c e
      simp only [e] at this
      obtain ⟨_, _, _, _, ⟨vs, h5, _⟩, _⟩ := this
      cases hb; exact ⟨vs, _, h5⟩
    · cases hb
  -- the blocks of m
  have mo : ∀ b, b ∈ m.own.map (·.1) → ∃ y ∈ picks io g.own, y.1 = b := fun b hb => by
    obtain ⟨y, hy, rfl⟩ := List.mem_map.1 hb
    obtain ⟨ds, h1, _⟩ := ho.mem y hy
    exact ⟨_, h1, rfl⟩
  have nodO' : (g.own.filterMap fun x => some x.1).Nodup := by rw [filterMap_some_map (f := fun x : Nat × TypeId × List A => x.1)]; exact H.nodup
  have nodM' : (g.maps.filterMap fun x => some x.1).Nodup := by rw [filterMap_some_map (f := fun x : Nat × List (Value × A) => x.1)]; exact H.mp.nodup
  have notO : ∀ y ∈ others io g.own, ¬ m.blk y.1 := fun y hy h => by
    have hyg := (others_sub io g.own).subset hy
    obtain ⟨_, vs, hb, _⟩ := H.own y hyg
    rcases h with h | h | h
    · obtain ⟨z, hz, e⟩ := mo _ h
      exact picks_others (f := fun x : Nat × TypeId × List A => some x.1) nodO' hz hy (b := y.1) (by rw [e]) rfl
    · rw [hr] at h
      obtain ⟨z, hz, e⟩ := List.mem_filterMap.1 h
      exact (H.roomB z (mem_picks hz) _ e).2 (List.mem_map.2 ⟨y, hyg, rfl⟩)
    · rw [hm] at h
      obtain ⟨z, hz, e⟩ := List.mem_map.1 h
      obtain ⟨arr, cl, q, _⟩ := H.mp.at_ z (mem_picks hz)
      rw [e, hb] at q; cases q
  have notR : ∀ y ∈ others ir g.rooms, ∀ b, roomBlock y.1 = some b → ¬ m.blk b := fun y hy b hyb h => by
    have hyg := (others_sub ir g.rooms).subset hy
    obtain ⟨vs, ty, hb⟩ := rcells y hyg b hyb
    rcases h with h | h | h
    · obtain ⟨z, hz, e⟩ := mo _ h
      exact (H.roomB y hyg b hyb).2 (List.mem_map.2 ⟨z, mem_picks hz, e⟩)
    · rw [hr] at h
      obtain ⟨z, hz, e⟩ := List.mem_filterMap.1 h
      exact picks_others (f := fun x : Value × Nat × Nat => roomBlock x.1) H.roomN hz hy e hyb
    · rw [hm] at h
      obtain ⟨z, hz, e⟩ := List.mem_map.1 h
      obtain ⟨arr, cl, q, _⟩ := H.mp.at_ z (mem_picks hz)
      rw [e, hb] at q; cases q
  have notM : ∀ y ∈ others im g.maps, ¬ m.blk y.1 := fun y hy h => by
    have hyg := (others_sub im g.maps).subset hy
    obtain ⟨arr, cl, q, _⟩ := H.mp.at_ y hyg
    rcases h with h | h | h
    · obtain ⟨z, hz, e⟩ := mo _ h
      obtain ⟨_, vs, hb, _⟩ := H.own z (mem_picks hz)
      rw [e, q] at hb; cases hb
    · rw [hr] at h
      obtain ⟨z, hz, e⟩ := List.mem_filterMap.1 h
      obtain ⟨vs, ty, hb⟩ := rcells z (mem_picks hz) _ e
      rw [q] at hb; cases hb
    · rw [hm] at h
      obtain ⟨z, hz, e⟩ := List.mem_map.1 h
      exact picks_others (f := fun x : Nat × List (Value × A) => some x.1) nodM' hz hy (b := y.1) (by rw [e]) rfl
  have base : ∀ b, m.blk b → E.base b := fun b h => by
    rcases h with h | h | h
    · obtain ⟨z, hz, e⟩ := mo _ h; rw [← e]; exact H.ownB z (mem_picks hz)
    · rw [hr] at h
      obtain ⟨z, hz, e⟩ := List.mem_filterMap.1 h
      exact (H.roomB z (mem_picks hz) b e).1
    · rw [hm] at h
      obtain ⟨z, hz, e⟩ := List.mem_map.1 h
      rw [← e]; exact H.mp.base z (mem_picks hz)
  have base' : ∀ b, (m' x).blk b → E.base b := fun b h => (bx b h).elim (base b) fun q => .inr (Nat.le_trans H.size q)
  have sn : ∀ b, b < w.heap.size → ¬ m.blk b → ∀ o sp, r ⟨b, o, sp⟩ = none → s ⟨b, o, sp⟩ = none := fun b hb hn o sp e => by
    cases hs : s ⟨b, o, sp⟩ with
    | none => rfl
    | some v =>
      rcases gx.fresh _ _ hs with q | ⟨q | q, _⟩
      · rw [e] at q; cases q
      · exact absurd q hn
      · exact absurd q (by simp; omega)
  exact {
    le := H.le.trans_le gx.le
    cps := fun c hc => Rho.le_trans (H.cps c hc) gx.le
    ok := gx.ok
    fresh := fun y v e => by
      rcases gx.fresh y v e with q | ⟨q | q, u⟩
      · rcases H.fresh y v q with k | k
        · exact .inl k
        · exact .inr ⟨k.1, gx.unf _ (Rho.ok_lt H.ok q) k.2⟩
      · exact .inr ⟨base _ q, u⟩
      · exact .inr ⟨.inr (Nat.le_trans H.size q), u⟩
    size := Nat.le_trans H.size gx.size
    block := fun k hk hx => by
      rw [gx.block k (Nat.lt_of_lt_of_le hk H.size) (fun q => (base k q).elim hx (fun h => by omega))]
      exact H.block k hk hx
    unf := fun b hb hu => gx.unf b (Nat.lt_of_lt_of_le hb H.size) (H.unf b hb hu)
    os := gx.os.trans H.os
    tape := gx.tape.trans H.tape
    output := gx.output.trans H.output
    slots := hs
    own := fun y hy => by
      rcases List.mem_append.1 hy with hy | hy
      · exact mx.own y hy
      · have hyg := (others_sub io g.own).subset hy
        obtain ⟨h1, vs, h2, h3⟩ := H.own y hyg
        exact ⟨fun o sp => sn _ (ownlt y hyg) (notO y hy) o sp (h1 o sp), vs, by rw [gx.block _ (ownlt y hyg) (notO y hy)]; exact h2, h3.mono gx.le⟩
    ownB := fun y hy => by
      rcases List.mem_append.1 hy with hy | hy
      · exact base' _ (.inl (List.mem_map.2 ⟨y, hy, rfl⟩))
      · exact H.ownB y ((others_sub io g.own).subset hy)
    nodup := by
      rw [List.map_append]
      refine nodup_append_of mx.nodO (H.nodup.sublist ((others_sub io g.own).map _)) fun b hb hb' => ?_
      obtain ⟨y, hy, rfl⟩ := List.mem_map.1 hb'
      have hlt := ownlt y ((others_sub io g.own).subset hy)
      exact (bx _ (.inl hb)).elim (notO y hy) (fun q => by omega)
    room := fun y hy => by
      rcases List.mem_append.1 hy with hy | hy
      · exact mx.room y hy
      · have hyg := (others_sub ir g.rooms).subset hy
        have hR := H.room y hyg
        have hlt := roomlt y hyg
        have hnb := notR y hy
        unfold RoomOk at hR ⊢
        split at hR
        · exact hR
        · rename_i ad n c e
          obtain ⟨h1, h2, h3, h4, ⟨vs, h5, h6⟩, h7⟩ := hR
          have hb : roomBlock y.1 = some ad.block := by rw [e]; rfl
          exact ⟨h1, h2, h3, h4, ⟨vs, by rw [gx.block _ (hlt _ hb) (hnb _ hb)]; exact h5, h6⟩, fun o sp q => sn _ (hlt _ hb) (hnb _ hb) o sp (h7 o sp q)⟩
        · exact hR
    roomB := fun y hy b hb => by
      rcases List.mem_append.1 hy with hy | hy
      · have hyb : (m' x).blk b := .inr (.inl (List.mem_filterMap.2 ⟨y, hy, hb⟩))
        refine ⟨base' _ hyb, fun h => ?_⟩
        rw [List.map_append] at h
        rcases List.mem_append.1 h with h | h
        · exact mx.roomD y hy b hb h
        · obtain ⟨z, hz, rfl⟩ := List.mem_map.1 h
          have hlt := ownlt z ((others_sub io g.own).subset hz)
          exact (bx _ hyb).elim (notO z hz) (fun q => by omega)
      · have hyg := (others_sub ir g.rooms).subset hy
        obtain ⟨h1, h2⟩ := H.roomB y hyg b hb
        refine ⟨h1, fun h => ?_⟩
        rw [List.map_append] at h
        rcases List.mem_append.1 h with h | h
        · have hlt := roomlt y hyg b hb
          exact (bx _ (.inl h)).elim (notR y hy b hb) (fun q => by omega)
        · exact h2 (((others_sub io g.own).map _).subset h)
    roomN := by
      rw [List.filterMap_append]
      refine nodup_append_of mx.nodR (H.roomN.sublist ((others_sub ir g.rooms).filterMap _)) fun b hb hb' => ?_
      obtain ⟨y, hy, e⟩ := List.mem_filterMap.1 hb'
      have hlt := roomlt y ((others_sub ir g.rooms).subset hy) b e
      exact (bx _ (.inr (.inl hb))).elim (notR y hy b e) (fun q => by omega)
    mp := {
      at_ := fun y hy => by
        rcases List.mem_append.1 hy with hy | hy
        · exact mx.maps y hy
        · have hyg := (others_sub im g.maps).subset hy
          obtain ⟨arr, cl, h1, h2, h3⟩ := H.mp.at_ y hyg
          exact ⟨arr, cl, by rw [gx.block _ (maplt y hyg) (notM y hy)]; exact h1, h2, h3.mono gx.le⟩
      un := fun y hy o sp => by
        rcases List.mem_append.1 hy with hy | hy
        · exact mx.mapu y hy o sp
        · have hyg := (others_sub im g.maps).subset hy
          exact sn _ (maplt y hyg) (notM y hy) o sp (H.mp.un y hyg o sp)
      base := fun y hy => by
        rcases List.mem_append.1 hy with hy | hy
        · exact base' _ (.inr (.inr (List.mem_map.2 ⟨y, hy, rfl⟩)))
        · exact H.mp.base y ((others_sub im g.maps).subset hy)
      nodup := by
        rw [List.map_append]
        refine nodup_append_of mx.nodM (H.mp.nodup.sublist ((others_sub im g.maps).map _)) fun b hb hb' => ?_
        obtain ⟨y, hy, rfl⟩ := List.mem_map.1 hb'
        have hlt := maplt y ((others_sub im g.maps).subset hy)
        exact (bx _ (.inr (.inr hb))).elim (notM y hy) (fun q => by omega)
      obj := fun y hy => by
        obtain ⟨h1, h2, h3, h4⟩ := H.mp.obj y hy
        have hlt := (Array.getElem?_eq_some_iff.1 h1).1
        refine ⟨?_, h2, h3, h4⟩
        rw [gx.block _ hlt]
        · exact h1
        · intro q
          rcases q with q | q | q
          · obtain ⟨z, hz, e⟩ := mo _ q
            obtain ⟨_, vs, hb, _⟩ := H.own z (mem_picks hz)
            rw [e, h1] at hb; rw [Option.some.inj hb] at h2; simp [Obj.isCells] at h2
          · rw [hr] at q
            obtain ⟨z, hz, e⟩ := List.mem_filterMap.1 q
            obtain ⟨vs, ty, hb⟩ := rcells z (mem_picks hz) _ e
            rw [h1] at hb; rw [Option.some.inj hb] at h2; simp [Obj.isCells] at h2
          · rw [hm] at q
            obtain ⟨z, hz, e⟩ := List.mem_map.1 q
            obtain ⟨arr, cl, hb, _⟩ := H.mp.at_ z (mem_picks hz)
            rw [e, h1] at hb; rw [Option.some.inj hb] at h4; simp [isMapO] at h4
      objN := H.mp.objN } }

theorem MemOk.picks {r : Rho} {a : Act} {w : World} (H : HoldsAt E g r a w) (io ir im : List Nat) {m : Mem} (hi : io.Nodup) (hj : ir.Nodup) (hk : im.Nodup)
    (ho : OSub m.own (picks io g.own)) (hr : m.rooms = L.picks ir g.rooms) (hm : m.maps = L.picks im g.maps) : MemOk r w m := by
  have nodP : ∀ {S : Type} (f : S → Option Nat) (io : List Nat) (l : List S), io.Nodup → (l.filterMap f).Nodup → ((L.picks io l).filterMap f).Nodup := by
    intro S f io l
    induction io with
    | nil => intro _ _; simp [L.picks]
    | cons i io ih =>
      intro hn hl
      rw [List.nodup_cons] at hn
      unfold L.picks
      rw [nth_eq]
      cases hli : l[i]? with
      | none => exact ih hn.2 hl
      | some y =>
        simp only
        rw [List.filterMap_cons]
        cases hfy : f y with
        | none => exact ih hn.2 hl
        | some b =>
          simp only
          rw [List.nodup_cons]
          refine ⟨fun hb => ?_, ih hn.2 hl⟩
          obtain ⟨z, hz, hfz⟩ := List.mem_filterMap.1 hb
          obtain ⟨j, hj, hlj⟩ := mem_picks' hz
          have := nodup_filterMap_get hl hli hlj hfy hfz
          subst this; exact hn.1 hj
  have nodO' : (g.own.filterMap fun x => some x.1).Nodup := by rw [filterMap_some_map (f := fun x : Nat × TypeId × List A => x.1)]; exact H.nodup
  have nodM' : (g.maps.filterMap fun x => some x.1).Nodup := by rw [filterMap_some_map (f := fun x : Nat × List (Value × A) => x.1)]; exact H.mp.nodup
  have ok : OwnOk r w (L.picks io g.own) := fun x hx => H.own x (mem_picks hx)
  refine ⟨ho.ok ok, fun x hx => ?_, fun x hx => ?_, fun x hx => ?_, ?_, fun x hx b hb hm' => ?_, ?_, ?_⟩
  · rw [hr] at hx; exact H.room x (mem_picks hx)
  · rw [hm] at hx; exact H.mp.at_ x (mem_picks hx)
  · rw [hm] at hx; exact H.mp.un x (mem_picks hx)
  · have := nodP (fun x : Nat × TypeId × List A => some x.1) io g.own hi nodO'
    rw [filterMap_some_map (f := fun x : Nat × TypeId × List A => x.1)] at this
    exact this.sublist ho.fst
  · rw [hr] at hx
    refine (H.roomB x (mem_picks hx) b hb).2 ?_
    obtain ⟨y, hy, e⟩ := List.mem_map.1 hm'
    obtain ⟨ds, h1, _⟩ := ho.mem y hy
    exact List.mem_map.2 ⟨_, mem_picks h1, e⟩
  · rw [hr]; exact nodP _ ir g.rooms hj H.roomN
  · rw [hm]
    have := nodP (fun x : Nat × List (Value × A) => some x.1) im g.maps hk nodM'
    rwa [filterMap_some_map (f := fun x : Nat × List (Value × A) => x.1)] at this

theorem Marks.callX {m : Mem} {r : Rho} {a : Act} {w : World} (H : HoldsAt E g r a w) {s : Rho} {w' : World} (io ir im : List Nat) (ho : OSub m.own (L.picks io g.own)) (hr : m.rooms = L.picks ir g.rooms) (hm : m.maps = L.picks im g.maps) (gx : GrowX m.blk r w s w') :
    ∀ {l : List Deferred}, Marks E w l → Marks E w' l
  | [], _ => trivial
  | _ :: _, ⟨⟨b, h1, h2, h3, h4⟩, k⟩ => ⟨⟨b, h1, h2, (by
      rw [gx.block b (Array.getElem?_eq_some_iff.1 h3).1]
      · exact h3
      · intro q
        rcases q with q | q | q
        · obtain ⟨z, hz, e⟩ := List.mem_map.1 q
          obtain ⟨ds, q1, _⟩ := ho.mem z hz
          obtain ⟨_, vs, hb, _⟩ := H.own _ (mem_picks q1)
          simp only at hb
          rw [e, h3] at hb; cases hb
        · rw [hr] at q
          obtain ⟨z, hz, e⟩ := List.mem_filterMap.1 q
          have := H.room z (mem_picks hz)
          unfold RoomOk at this
          unfold roomBlock at e
          split at e
          · rename_i ad n c e'
            simp only [e'] at this
            obtain ⟨_, _, _, _, ⟨vs, h5, _⟩, _⟩ := this
            cases e; rw [h3] at h5; cases h5
          · cases e
        · rw [hm] at q
          obtain ⟨z, hz, e⟩ := List.mem_map.1 q
          obtain ⟨arr, cl, hb, _⟩ := H.mp.at_ z (mem_picks hz)
          rw [e, h3] at hb; cases hb), h4⟩, Marks.callX H io ir im ho hr hm gx k⟩

/-- A call that is handed memory. -/
theorem WL_callX {T : Type} (io ir im : List Nat) {d f : Nat} {ty : TypeId} {pos : String} {aft : Array Edge} {xs : List Operand} {ts : List A} {tt : Array TypeId} {m : Mem} {t : T → A} {m' : T → Mem}
    (hf : CallF E.P f) (h : FnX E.P f m ts t m') (hl : xs.length = ts.length) (hr : Reads g.sl true ((xs.zip ts).map fun z => (true, z.1, z.2)))
    (ho : OSub m.own (picks io g.own)) (hrm : m.rooms = picks ir g.rooms) (hm : m.maps = picks im g.maps) (hi : decide (io.Nodup ∧ ir.Nodup ∧ im.Nodup) = true) (hd : Nat.ble (d + 1) E.n = true)
    (k : ∀ x, WL E ops rest { g with sl := (d, true, t x) :: g.sl, own := (m' x).own ++ others io g.own, rooms := (m' x).rooms ++ others ir g.rooms, maps := (m' x).maps ++ others im g.maps } Q) :
    WL E ops (⟨some d, .call { callee := .value (.func f), args := xs.toArray, argTypes := tt }, ty, pos, aft, none⟩ :: rest) g Q := by
  intro a w ⟨h1, h2, r, H⟩
  have hu := hr.use rfl H.slots
  have hall := all2_args (r := r) hl hu
  obtain ⟨q1, q2, q3⟩ := of_decide_eq_true hi
  have hmem := MemOk.picks H io ir im q1 q2 q3 ho hrm hm
  have hcall := h r w _ H.ok hmem hall
  refine wpListIn_plain rfl fun K hK => ?_
  refine ⟨fun f _ => trivial, ?_⟩
  rw [Oper.semAt_eq _ _ _ (by simp)]
  show Oper.uponIn (fz E.rnd) 9 E.P _ a K Q ((execOp a.eval ⟨some d, .call { callee := .value (.func f), args := xs.toArray, argTypes := tt }, ty, pos, aft, none⟩).run E.P w)
  rw [exec_eq, run_callf hf, Oper.uponIn_enter]
  refine ⟨fun h => (by cases h), CallsIn.mono (calls_fz hcall) ?_⟩
  rintro e w'' ⟨v, s, x, rfl, gx, hv, mx, bx⟩
  refine hK _ _ (k x _ _ ⟨by rw [size_put]; exact h1, by rw [defers_put]; exact Marks.callX H io ir im ho hrm hm gx h2, s, ?_⟩)
  have hlt : d < a.tmps.size := by rw [h1]; exact Nat.le_of_ble_eq_true hd
  exact H.callX io ir im ho hrm hm gx mx bx (Slots.put (Slots.mono H.slots gx.le) hlt (fun _ => hv) (fun hc => by cases hc))

/-- A loop: J says what holds of the slots that it writes, O of the owned blocks io, R of the rooms ir, M of the maps im; the slots ks and the rest of the memory stay as they are. -/
theorem W_loopp {c : Code} {T : Type} (ks io ir im : List Nat) (q : T → Prop) (J : T → List (Nat × Bool × A)) (M : T → Mem) (m : T → Nat) (x0 : T) (hq : q x0) (h0 : Facts g.sl (J x0)) (hO : OSub (M x0).own (picks io g.own)) (hR : (M x0).rooms = picks ir g.rooms) (hM : (M x0).maps = picks im g.maps)
    (hi : decide (io.Nodup ∧ ir.Nodup ∧ im.Nodup) = true)
    (round : ∀ x, q x → W E c ⟨J x ++ keep g.sl ks, (M x).own ++ others io g.own, (M x).rooms ++ others ir g.rooms, (M x).maps ++ others im g.maps, g.objs, g.cps⟩ (Exit.then (fun a w => ∃ x', q x' ∧ m x' < m x ∧ Holds E ⟨J x' ++ keep g.sl ks, (M x').own ++ others io g.own, (M x').rooms ++ others ir g.rooms, (M x').maps ++ others im g.maps, g.objs, g.cps⟩ a w) Q)) : W E (.loop c) g Q := by
  obtain ⟨q1, q2, q3⟩ := of_decide_eq_true hi
  refine W_loop q (fun x => ⟨J x ++ keep g.sl ks, (M x).own ++ others io g.own, (M x).rooms ++ others ir g.rooms, (M x).maps ++ others im g.maps, g.objs, g.cps⟩) m ⟨x0, hq, fun a w ⟨h1, h2, r, H⟩ => ⟨h1, h2, r, ?_⟩⟩ round
  refine H.callX (T := T) (m := M x0) (m' := M) (x := x0) io ir im hO hR hM ⟨r.le_refl, H.ok, fun _ _ e => .inl e, Nat.le_refl _, fun _ _ _ => rfl, fun _ _ h => h, rfl, rfl, rfl⟩ (MemOk.picks H io ir im q1 q2 q3 hO hR hM) (fun _ h => .inl h) ?_
  intro s b t e
  obtain ⟨rfl, u, hu, k⟩ := (Facts.append h0 (Facts.keep Kept.self)).use e
  exact ⟨fun _ => k _ _ ((H.slots s true u hu).1 rfl), fun h => by cases h⟩
theorem Fin_backp {T : Type} {ks : List Nat} {q : T → Prop} {J : T → List (Nat × Bool × A)} {M : T → Mem} {m : T → Nat} {x : T} {ow : Own} {rm : List (Value × Nat × Nat)} {mp : List (Nat × List (Value × A))} {g' : Ctx} {N : Exit → Act → World → Prop} (io : List Nat) (x' : T) (hq : q x') (hm : m x' < m x) (h : Facts g'.sl (J x'))
    (hk : Kept g.sl g'.sl ks) (ho : OSub ((M x').own ++ ow) (picks io g'.own)) (hi : decide io.Nodup = true) (hr : ((M x').rooms ++ rm).Sublist g'.rooms) (hmm : (M x').maps ++ mp = g'.maps) (hob : g.objs = g'.objs := by rfl) (hc : g.cps = g'.cps := by rfl) :
    Fin E g' .normal (Exit.then (fun a w => ∃ x', q x' ∧ m x' < m x ∧ Holds E ⟨J x' ++ keep g.sl ks, (M x').own ++ ow, (M x').rooms ++ rm, (M x').maps ++ mp, g.objs, g.cps⟩ a w) N) := by
  intro a w ⟨h1, h2, r, H⟩
  have hO : OSub (⟨picks io g'.own, g'.rooms, g'.maps⟩ : Mem).own (picks io g'.own) := OSub.refl
  have hmem := (MemOk.picks H io [] [] (m := ⟨picks io g'.own, [], []⟩) (of_decide_eq_true hi) List.nodup_nil List.nodup_nil OSub.refl rfl rfl)
  have H1 : HoldsAt E { g' with own := picks io g'.own } r a w := H.reown (fun x hx => mem_picks hx) hmem.nodO
  exact ⟨x', hq, hm, Holds.less ⟨h1, h2, r, H1⟩ (Facts.append h (Facts.keep hk)) ho hr hmm hob (fun c h => hc ▸ h)⟩

/-- The ghost heap as it is now, by a name; facts of some slots are said of it. -/
def atSlots (c : Rho) (ss : List Nat) : List (Nat × Bool × A) → List (Nat × Bool × A)
  | [] => []
  | (s, b, t) :: l => (s, b, if b && ss.contains s then A.at_ c t else t) :: atSlots c ss l
theorem look_atSlots {c : Rho} {ss : List Nat} {s : Nat} {b : Bool} {u : A} : ∀ {l : List (Nat × Bool × A)}, look (atSlots c ss l) s = some (b, u) → ∃ t, look l s = some (b, t) ∧ (u = t ∨ (b = true ∧ u = A.at_ c t))
  | (s', b', t') :: l, h => by
    simp only [atSlots, look] at h ⊢
    by_cases e : s' = s
    · rw [if_pos (by simpa using e)] at h ⊢
      cases h
      refine ⟨t', rfl, ?_⟩
      by_cases q : (b && ss.contains s') = true
      · rw [if_pos q]; exact .inr ⟨by simp at q; exact q.1, rfl⟩
      · rw [if_neg q]; exact .inl rfl
    · rw [if_neg (by simpa using e)] at h ⊢
      exact look_atSlots h
theorem WL_cp {l : List Oper} (ss : List Nat) (h : ∀ c : Rho, (∀ a, E.r0 a ≠ none → c a ≠ none) → WL E ops l { g with sl := atSlots c ss g.sl, cps := c :: g.cps } Q) : WL E ops l g Q := by
  intro a w ⟨h1, h2, r, H⟩
  refine h r (fun a ha => ?_) a w ⟨h1, h2, r, { H with cps := fun c hc => (List.mem_cons.1 hc).elim (fun e => e ▸ r.le_refl) (H.cps c), slots := fun s b u e => ?_ }⟩
  · cases e : E.r0 a with
    | none => exact absurd e ha
    | some v => obtain ⟨v', q, _⟩ := H.le a v e; rw [q]; simp
  · obtain ⟨t, h3, h4⟩ := look_atSlots e
    have := H.slots s b t h3
    rcases h4 with rfl | ⟨rfl, rfl⟩
    · exact this
    · exact ⟨fun _ => ⟨r.le_refl, this.1 rfl⟩, fun e => by cases e⟩

/-- Known still when cells beyond c have turned to others of their kind. -/
def KI (c : Rho) (u t : A) : Prop := ∀ r s v, c.le r → c.le s → r.leK (r.beyond c) s → u.p r v → t.p s v
theorem KI.pure {c : Rho} {u : A} (h : Pure u) : KI c u u := fun _ _ _ _ _ _ k => h _ _ _ k
theorem KI.val {c : Rho} {v : Value} : KI c (A.val v) (A.val v) := KI.pure Pure.val
theorem KI.at_ {c : Rho} {u : A} : KI c (A.at_ c u) (A.at_ c u) := fun _ _ _ _ h _ k => ⟨h, k.2⟩
/-- Said of the shape alone. -/
def KS (u : A) : Prop := ∀ (r s : Rho) v, r.leK (fun _ => True) s → u.p r v → u.p s v
theorem KI.nw {c : Rho} {u : A} (h : KS u) : KI c (A.nw c u) (A.nw c u) := fun r s v _ h2 h3 k => ⟨h2, h _ _ _ (fun a x e => by
    have hc : c a = none := by
      unfold Rho.minus at e; split at e
      · assumption
      · cases e
    obtain ⟨x', e1, e2⟩ := h3 a x (Rho.minus_le _ _ _ _ e)
    refine ⟨x', by unfold Rho.minus; rw [if_pos hc]; exact e1, e2.imp id fun q => ⟨trivial, q.2⟩⟩) k.2⟩
def FactsK (c : Rho) (av : List (Nat × Bool × A)) : List (Nat × Bool × A) → Prop
  | [] => True
  | (s, b, t) :: l => (b = true ∧ ∃ u, look av s = some (true, u) ∧ KI c u t) ∧ FactsK c av l
theorem FactsK.use {c : Rho} {av : List (Nat × Bool × A)} {s : Nat} {b : Bool} {t : A} : ∀ {l : List (Nat × Bool × A)}, FactsK c av l → look l s = some (b, t) → b = true ∧ ∃ u, look av s = some (true, u) ∧ KI c u t
  | (s', c', t') :: l, h, e => by
    unfold look at e
    by_cases q : s' = s
    · subst q; simp at e; obtain ⟨rfl, rfl⟩ := e; exact h.1
    · rw [if_neg (by simpa using q)] at e; exact FactsK.use h.2 e
def AllKI (c : Rho) : List A → List A → Prop
  | [], [] => True
  | u :: l, t :: m => KI c u t ∧ AllKI c l m
  | _, _ => False
theorem AllKI.all2 {c r s : Rho} (h1 : c.le r) (h2 : c.le s) (h3 : r.leK (r.beyond c) s) : ∀ {l m : List A} {vs : List Value}, AllKI c l m → All2 r l vs → All2 s m vs
  | [], [], [], _, _ => trivial
  | [], [], _ :: _, _, k => k.elim
  | _ :: _, _ :: _, _ :: _, h, k => ⟨h.1 _ _ _ h1 h2 h3 k.1, AllKI.all2 h1 h2 h3 h.2 k.2⟩
  | _ :: _, _ :: _, [], _, k => k.elim
  | [], _ :: _, _, h, _ => h.elim
  | _ :: _, [], _, h, _ => h.elim
/-- Owned blocks kept, where no more is said than of kinds. -/
inductive OKI (c : Rho) : Own → Own → Prop
  | nil : OKI c [] []
  | cons {l m : Own} {b ty : Nat} {cs ds : List A} (h : AllKI c ds cs) (k : OKI c l m) : OKI c ((b, ty, cs) :: l) ((b, ty, ds) :: m)
theorem OKI.mem {c : Rho} {l m : Own} (h : OKI c l m) : ∀ x ∈ l, ∃ ds, (x.1, x.2.1, ds) ∈ m ∧ AllKI c ds x.2.2 := by
  induction h with
  | nil => intro x hx; cases hx
  | cons h k ih =>
    intro x hx
    rcases List.mem_cons.1 hx with rfl | hx
    · exact ⟨_, List.mem_cons_self .., h⟩
    · obtain ⟨ds, h1, h2⟩ := ih x hx; exact ⟨ds, List.mem_cons_of_mem _ h1, h2⟩
theorem OKI.fst {c : Rho} {l m : Own} (h : OKI c l m) : l.map (·.1) = m.map (·.1) := by
  induction h with
  | nil => rfl
  | cons h k ih => simp [ih]

/-- Behind a turn of cells beyond c. -/
theorem HoldsAt.turn {c : Rho} {r s : Rho} {a a' : Act} {w w' : World} (H : HoldsAt E g r a w) {g' : Ctx} (hc : c ∈ g.cps) (hE : ∀ a, E.r0 a ≠ none → c a = none → a.spot = none → E.K a) (gx : GrowK (r.beyond c) r w s w')
    (ho : OKI c g'.own g.own) (hr : g'.rooms = []) (hm : g'.maps = []) (hob : g'.objs = []) (hcp : g'.cps = [c]) (hs : Slots s a' g'.sl) : HoldsAt E g' s a' w' := by
  have hcr := H.cps c hc
  have hcs : c.le s := fun x v e => by
    obtain ⟨v', e1, e2 | ⟨e2, _⟩⟩ := gx.le x v (hcr _ _ e)
    · rw [e1, e2]
    · rw [e2.1] at e; cases e
  have base : ∀ b, r.beyond c b → E.base b.block ∧ b.block < w.heap.size ∧ Unf w b.block := fun b hb => by
    obtain ⟨h1, h0, v, h2⟩ := hb
    refine ⟨?_, Rho.ok_lt H.ok h2, ?_⟩
    · rcases H.fresh b v h2 with ⟨⟨v0, k1⟩, k2⟩ | k
      · exact absurd (hE b (by rw [k1]; simp) h1 h0) k2
      · exact k.1
    · rcases H.fresh b v h2 with ⟨⟨v0, k1⟩, k2⟩ | k
      · exact absurd (hE b (by rw [k1]; simp) h1 h0) k2
      · exact k.2
  have nb : ∀ y ∈ g.own, ∀ b, r.beyond c b → b.block ≠ y.1 := fun y hy b hb e => by
    obtain ⟨_, _, v, h2⟩ := hb
    have := (H.own y hy).1 b.off b.spot
    rw [← e] at this
    have e3 : r b = none := this
    rw [e3] at h2; cases h2
  exact {
    le := fun x v e => by
      obtain ⟨v1, h1, h2⟩ := H.le x v e
      obtain ⟨v2, k1, k2⟩ := gx.le x v1 h1
      refine ⟨v2, k1, ?_⟩
      rcases k2 with rfl | ⟨k2, k3⟩
      · exact h2
      · have hk := hE x (by rw [e]; simp) k2.1 k2.2.1
        rcases h2 with rfl | ⟨_, h3⟩
        · exact .inr ⟨hk, k3⟩
        · exact .inr ⟨hk, h3.trans k3⟩
    cps := fun c' hc' => by rw [hcp] at hc'; rcases List.mem_singleton.1 hc' with rfl; exact hcs
    ok := gx.ok
    fresh := fun x v e => by
      rcases gx.fresh x v e with ⟨⟨v0, q⟩, q2⟩ | ⟨q | q, u⟩
      · rcases H.fresh x v0 q with k | k
        · exact .inl k
        · exact .inr ⟨k.1, gx.unf _ (Rho.ok_lt H.ok q) k.2⟩
      · obtain ⟨b, hb, e'⟩ := q
        exact .inr ⟨e' ▸ (base b hb).1, u⟩
      · exact .inr ⟨.inr (Nat.le_trans H.size q), u⟩
    size := Nat.le_trans H.size gx.size
    block := fun k hk hx => by
      rw [gx.block k (Nat.lt_of_lt_of_le hk H.size) (fun b hb e => (base b hb).1.elim (fun h => hx (e ▸ h)) (fun h => by omega))]
      exact H.block k hk hx
    unf := fun b hb hu => gx.unf b (Nat.lt_of_lt_of_le hb H.size) (H.unf b hb hu)
    os := gx.os.trans H.os
    tape := gx.tape.trans H.tape
    output := gx.output.trans H.output
    slots := hs
    own := fun y hy => by
      obtain ⟨ds, hy2, himp⟩ := ho.mem y hy
      have hnb : ∀ b, r.beyond c b → b.block ≠ y.1 := nb (y.1, y.2.1, ds) hy2
      have hlt : y.1 < w.heap.size := (H.own (y.1, y.2.1, ds) hy2).lt
      obtain ⟨h1, vs, h2, h3⟩ := H.own (y.1, y.2.1, ds) hy2
      refine ⟨fun o sp => ?_, vs, by rw [gx.block _ hlt hnb]; exact h2, himp.all2 hcr hcs gx.le h3⟩
      cases hss : s ⟨y.1, o, sp⟩ with
      | none => rfl
      | some v =>
        rcases gx.fresh _ _ hss with ⟨⟨v0, q⟩, _⟩ | ⟨⟨b, q, e⟩ | q, _⟩
        · rw [h1 o sp] at q; cases q
        · exact absurd e (hnb b q)
        · exact absurd q (by simp; omega)
    ownB := fun y hy => by obtain ⟨ds, h1, _⟩ := ho.mem y hy; exact H.ownB (y.1, y.2.1, ds) h1
    nodup := by rw [ho.fst]; exact H.nodup
    room := by rw [hr]; exact fun _ h => (by cases h)
    roomB := by rw [hr]; exact fun _ h => (by cases h)
    roomN := by rw [hr]; exact List.nodup_nil
    mp := by rw [hm, hob]; exact MapsOk.nil }

theorem Marks.turn {c r s : Rho} {a : Act} {w w' : World} (H : HoldsAt E g r a w) (gx : GrowK (r.beyond c) r w s w') : ∀ {l : List Deferred}, Marks E w l → Marks E w' l
  | [], _ => trivial
  | _ :: _, ⟨⟨b, h1, h2, h3, h4⟩, k⟩ => ⟨⟨b, h1, h2, (by
      rw [gx.block b (Array.getElem?_eq_some_iff.1 h3).1]
      · exact h3
      · intro x hx e
        obtain ⟨_, hsp, v, hv⟩ := id hx
        have := H.ok x v hv
        rw [e, h3] at this
        unfold gc at this
        rw [hsp] at this
        cases this), h4⟩, Marks.turn H gx k⟩
end
end Go.L
