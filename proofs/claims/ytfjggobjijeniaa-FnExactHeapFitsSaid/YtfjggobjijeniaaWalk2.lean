import Derived.Test.YtfjggobjijeniaaWalk1
import Derived.Maps.Keyed
import Derived.DeepKeys4
import Derived.DeepKeys5
/-! Calls: of functions that return new memory, with owned blocks lent, with memory handed over, of functions that write numbers into what they are handed. -/
namespace Go.L
open Go Go.RowKit

section
variable {P : Program} {own : OC} {ty : TypeId} {f : FuncId} {xs : List Operand} {ts us : List A} {t : A} {tt : Array TypeId}
theorem run_callf {w : World} {a : Act} (hf : CallF P f) : (exec a (.call { callee := .value (.func f), args := xs.toArray, argTypes := tt }) ty).run P w = .ok (.enter f (xs.map a.eval).toArray) w := by
  have e : a.eval (.func f) = .func (.func f) #[] #[] := rfl
  simp only [exec, execOp, resolve, Sem.run_bind, Sem.run_pure, Result.andThen_ok, e, Deferred.ofValue, invoke]
  simp only [List.map_toArray, Array.empty_append, Array.append_empty, hf w _]

/-- A call of a function whose result is new memory. -/
theorem O_callN (c : Rho) (hc : c ∈ own.cps) (hf : CallF P f) (h : FnN P f ts t) (hl : xs.length = ts.length) :
    OpN P own ((xs.zip ts).map fun z => (true, z.1, z.2)) (.call { callee := .value (.func f), args := xs.toArray, argTypes := tt }) ty (A.nw c t) := fun r w a hok ho hn => by
  rw [run_callf hf]
  refine ⟨rfl, (h r w _ hok (all2_args hl hn)).mono ?_⟩
  rintro e w' ⟨v, s, h1, h2, h3, h4⟩
  have hcr := ho.cps c hc
  exact ⟨v, s, h1, h2, Rho.le_trans hcr h3, t.mono (Rho.minus_anti hcr) h4⟩

/-- The blocks of O, read as they lie. -/
def LendOk (O : Own) (r : Rho) : Prop := ∀ x ∈ O, A.CellsAt r x.1 0 x.2.2
/-- What is said of values where the blocks of O are read. -/
def Lend (O : Own) (u t : A) : Prop := ∀ r v, LendOk O r → u.p r v → t.p r v
theorem Lend.imp {O : Own} {u t : A} (h : Imp u t) : Lend O u t := fun r v _ k => h r v k
theorem Lend.refl {O : Own} {u : A} : Lend O u u := fun _ _ _ k => k
def AllLend (O : Own) : List A → List A → Prop
  | [], [] => True
  | u :: us, t :: ts => Lend O u t ∧ AllLend O us ts
  | _, _ => False
theorem AllLend.all2 {O : Own} {r : Rho} (hO : LendOk O r) : ∀ {us ts : List A} {vs : List Value}, AllLend O us ts → All2 r us vs → All2 r ts vs
  | [], [], _, _, k => k
  | _ :: _, _ :: _, _ :: _, h, k => ⟨h.1 r _ hO k.1, AllLend.all2 hO h.2 k.2⟩
  | _ :: _, _ :: _, [], _, k => k.elim
  | [], _ :: _, _, h, _ => h.elim
  | _ :: _, [], _, h, _ => h.elim
theorem AllLend.length {O : Own} : ∀ {us ts : List A}, AllLend O us ts → us.length = ts.length
  | [], [], _ => rfl
  | _ :: _, _ :: _, h => by simp [AllLend.length h.2]
  | [], _ :: _, h => h.elim
  | _ :: _, [], h => h.elim

/-- The ghost heap with owned blocks read as they lie. -/
def Rho.with (r : Rho) (O : Own) (w : World) : Rho := fun x => if x.spot = none ∧ x.block ∈ O.map (·.1) then gc w.heap[x.block]? x else r x
theorem Rho.with_spec {r : Rho} {O : Own} {w : World} (hok : r.ok w) (ho : OwnOk r w O) : (r.with O w).ok w ∧ r.le (r.with O w) ∧ LendOk O (r.with O w) := by
  have hle : r.le (r.with O w) := fun x v e => by
    unfold Rho.with
    rw [if_neg]
    · exact e
    · rintro ⟨_, h2⟩
      obtain ⟨y, hy, e2⟩ := List.mem_map.1 h2
      have := (ho y hy).1 x.off x.spot
      have e3 : x = ⟨y.1, x.off, x.spot⟩ := by rw [e2]
      rw [e3, this] at e; cases e
  refine ⟨fun x v e => ?_, hle, fun y hy i c hi => ?_⟩
  · unfold Rho.with at e
    split at e
    · exact e
    · exact hok x v e
  · obtain ⟨_, vs, h2, h3⟩ := ho y hy
    obtain ⟨v, hv, hp⟩ := h3.get i c hi
    refine ⟨v, ?_, c.mono hle hp⟩
    unfold Rho.with
    rw [if_pos ⟨rfl, List.mem_map.2 ⟨y, hy, rfl⟩⟩]
    show gc w.heap[y.1]? ⟨y.1, 0 + i, none⟩ = some v
    rw [h2, Nat.zero_add]
    simpa [gc] using hv

def nth {S : Type} : List S → Nat → Option S
  | [], _ => none
  | x :: _, 0 => some x
  | _ :: l, i + 1 => nth l i
theorem nth_eq {S : Type} : ∀ {l : List S} {i : Nat}, nth l i = l[i]?
  | [], _ => by simp [nth]
  | _ :: _, 0 => by simp [nth]
  | _ :: l, i + 1 => by simp [nth, nth_eq (l := l)]
def picks {S : Type} : List Nat → List S → List S
  | [], _ => []
  | i :: io, l => match nth l i with
    | some x => x :: picks io l
    | none => picks io l
theorem picks_eq {S : Type} : ∀ {io : List Nat} {l : List S}, picks io l = io.filterMap fun i => l[i]?
  | [], _ => rfl
  | i :: io, l => by
    unfold picks
    rw [List.filterMap_cons, nth_eq, picks_eq]
    split <;> rename_i h <;> rw [h]
theorem mem_picks' {S : Type} {io : List Nat} {l : List S} {x : S} (h : x ∈ picks io l) : ∃ i, i ∈ io ∧ l[i]? = some x := by
  rw [picks_eq] at h
  exact List.mem_filterMap.1 h
theorem mem_picks {S : Type} {io : List Nat} {l : List S} {x : S} (h : x ∈ picks io l) : x ∈ l := by
  obtain ⟨i, _, e⟩ := mem_picks' h
  exact List.mem_of_getElem? e

/-- A call with owned blocks lent. -/
theorem O_callL (io : List Nat) (c : Rho) (hc : c ∈ own.cps) (hf : CallF P f) (h : FnN P f ts t) (hl : xs.length = us.length) (hL : AllLend (picks io own.own) us ts) :
    OpN P own ((xs.zip us).map fun z => (true, z.1, z.2)) (.call { callee := .value (.func f), args := xs.toArray, argTypes := tt }) ty (A.nw c t) := fun r w a hok ho hn => by
  rw [run_callf hf]
  have hO : OwnOk r w (picks io own.own) := fun x hx => ho.own x (mem_picks hx)
  obtain ⟨k1, k2, k3⟩ := Rho.with_spec hok hO
  refine ⟨rfl, (h _ w _ k1 (hL.all2 k3 ((all2_args hl hn).mono k2))).mono ?_⟩
  rintro e w' ⟨v, s, h1, h2, h3, h4⟩
  have hcr := ho.cps c hc
  let s2 : Rho := fun x => match r x with | some u => some u | none => (s.minus (r.with (picks io own.own) w)) x
  have hrs : r.le s2 := fun x u e => by show (match r x with | some u => some u | none => _) = _; rw [e]
  refine ⟨v, s2, h1, ⟨hrs, fun x u e => ?_, fun x u e => ?_, h2.below⟩, Rho.le_trans hcr hrs, t.mono (fun x u e => ?_) h4⟩
  · have e : (match r x with | some u => some u | none => (s.minus (r.with (picks io own.own) w)) x) = some u := e
    cases hr : r x with
    | some u' => rw [hr] at e; cases e; rw [h2.below.block _ (Rho.ok_lt hok hr)]; exact hok _ _ hr
    | none => rw [hr] at e; exact h2.ok _ _ (Rho.minus_le _ _ _ _ e)
  · have e : (match r x with | some u => some u | none => (s.minus (r.with (picks io own.own) w)) x) = some u := e
    cases hr : r x with
    | some u' => rw [hr] at e; exact .inl e
    | none =>
      rw [hr] at e
      refine .inr ((h2.fresh x u (Rho.minus_le _ _ _ _ e)).resolve_left fun q => ?_)
      unfold Rho.minus at e
      simp only [q] at e
      cases e
  · have hw : (r.with (picks io own.own) w) x = none := by
      unfold Rho.minus at e; split at e
      · assumption
      · cases e
    have hr : r x = none := by
      cases hr : r x with
      | none => rfl
      | some u' => have := k2 _ _ hr; rw [hw] at this; cases this
    have hcn : c x = none := by
      cases hcx : c x with
      | none => rfl
      | some u' => have := hcr _ _ hcx; rw [hr] at this; cases this
    show (s2.minus c) x = some u
    unfold Rho.minus
    rw [if_pos hcn]
    show (match r x with | some u => some u | none => (s.minus (r.with (picks io own.own) w)) x) = some u
    rw [hr]; exact e
/-- The same where the result is known of any ghost heap. -/
theorem OpN.pureNw {need : Need} {op : Op} {c : Rho} (hp : Pure t) (h : OpN P own need op ty (A.nw c t)) : OpN P own need op ty t := fun r w a hok ho hn => by
  have := h r w a hok ho hn
  generalize (exec a op ty).run P w = res at this
  cases res with
  | halt x w1 => exact this.elim
  | ok n w1 =>
    cases n with
    | value v => obtain ⟨s, g, k⟩ := this; exact ⟨s, g, hp _ _ _ k.2⟩
    | enter f args =>
      obtain ⟨e, k⟩ := this
      exact ⟨e, k.mono fun _ _ ⟨v, s, h1, h2, h3⟩ => ⟨v, s, h1, h2, hp _ _ _ h3.2⟩⟩
    | _ => exact this.elim
end

theorem nodup_append_of {S : Type} {l m : List S} (h1 : l.Nodup) (h2 : m.Nodup) (h : ∀ x ∈ l, x ∉ m) : (l ++ m).Nodup := by
  rw [List.nodup_append]
  exact ⟨h1, h2, fun a ha b hb e => h a ha (e ▸ hb)⟩

def memN (i : Nat) : List Nat → Bool
  | [] => false
  | j :: l => match Nat.beq i j with
    | true => true
    | false => memN i l
theorem memN_iff {i : Nat} : ∀ {l : List Nat}, memN i l = true ↔ i ∈ l
  | [] => by simp [memN]
  | j :: l => by
    unfold memN
    split
    · rename_i h; simp [Nat.eq_of_beq_eq_true h]
    · rename_i h
      rw [memN_iff, List.mem_cons]
      have : i ≠ j := fun e => by subst e; simp at h
      simp [this]
def othersAt {S : Type} (io : List Nat) : Nat → List S → List S
  | _, [] => []
  | i, x :: l => match memN i io with
    | true => othersAt io (i + 1) l
    | false => x :: othersAt io (i + 1) l
def others {S : Type} (io : List Nat) (l : List S) : List S := othersAt io 0 l
theorem mem_othersAt {S : Type} {io : List Nat} {x : S} : ∀ {l : List S} {k : Nat}, x ∈ othersAt io k l → ∃ i, k + i ∉ io ∧ l[i]? = some x
  | [], _, h => by cases h
  | y :: l, k, h => by
    unfold othersAt at h
    split at h
    · obtain ⟨i, h1, h2⟩ := mem_othersAt h
      exact ⟨i + 1, by rwa [show k + (i + 1) = k + 1 + i from by omega], by simpa using h2⟩
    · rename_i hm
      rcases List.mem_cons.1 h with rfl | h
      · refine ⟨0, fun hk => ?_, by simp⟩
        rw [Nat.add_zero] at hk; rw [memN_iff.2 hk] at hm; cases hm
      · obtain ⟨i, h1, h2⟩ := mem_othersAt h
        exact ⟨i + 1, by rwa [show k + (i + 1) = k + 1 + i from by omega], by simpa using h2⟩
theorem mem_others {S : Type} {io : List Nat} {l : List S} {x : S} (h : x ∈ others io l) : ∃ i, i ∉ io ∧ l[i]? = some x := by
  obtain ⟨i, h1, h2⟩ := mem_othersAt h
  exact ⟨i, by rwa [Nat.zero_add] at h1, h2⟩
theorem othersAt_sub {S : Type} (io : List Nat) : ∀ (l : List S) (k : Nat), (othersAt io k l).Sublist l
  | [], _ => List.nil_sublist _
  | y :: l, k => by
    unfold othersAt
    split
    · exact (othersAt_sub io l _).cons _
    · exact (othersAt_sub io l _).cons_cons _
theorem others_sub {S : Type} (io : List Nat) (l : List S) : (others io l).Sublist l := othersAt_sub io l 0
/-- Picked and others have no block in common. -/
theorem picks_others {S : Type} {f : S → Option Nat} {io : List Nat} {l : List S} (hn : (l.filterMap f).Nodup) {x y : S} (hx : x ∈ picks io l) (hy : y ∈ others io l) {b : Nat} (hbx : f x = some b) (hby : f y = some b) : False := by
  obtain ⟨i, hi, e⟩ := mem_picks' hx
  obtain ⟨j, hj, e'⟩ := mem_others hy
  have := nodup_filterMap_get hn e e' hbx hby
  subst this
  exact hj hi

theorem filterMap_some_map {S T : Type} (f : S → T) (l : List S) : l.filterMap (fun x => some (f x)) = l.map f := by
  induction l with
  | nil => rfl
  | cons x l ih => simp

section
variable {E : Env} {g : Ctx} {Q : Exit → Act → World → Prop} {ops : Array Oper} {rest : List Oper}

/-- Another list of the owned blocks, none new. -/
theorem HoldsAt.reown {r : Rho} {a : Act} {w : World} (H : HoldsAt E g r a w) {own' : Own} (h : ∀ x ∈ own', x ∈ g.own) (hn : (own'.map (·.1)).Nodup) : HoldsAt E { g with own := own' } r a w :=
  { H with own := fun x hx => H.own x (h x hx), ownB := fun x hx => H.ownB x (h x hx), nodup := hn, roomB := fun x hx b hb => ⟨(H.roomB x hx b hb).1, fun hm => (H.roomB x hx b hb).2 (by
      obtain ⟨y, hy, e⟩ := List.mem_map.1 hm
      exact List.mem_map.2 ⟨y, h y hy, e⟩)⟩ }

/-- What is left behind a call that was handed memory. -/
theorem HoldsAt.callX {T : Type} {r s : Rho} {a a' : Act} {w w' : World} (H : HoldsAt E g r a w) (io ir im : List Nat) {m : Mem} {m' : T → Mem} {x : T} {av : List (Nat × Bool × A)}
    (ho : OSub m.own (picks io g.own)) (hr : m.rooms = picks ir g.rooms) (hm : m.maps = picks im g.maps) (gx : GrowX m.blk r w s w') (mx : MemOk s w' (m' x)) (bx : ∀ b, (m' x).blk b → m.blk b ∨ w.heap.size ≤ b) (hs : Slots s a' av) :
    HoldsAt E { g with sl := av, own := (m' x).own ++ others io g.own, rooms := (m' x).rooms ++ others ir g.rooms, maps := (m' x).maps ++ others im g.maps } s a' w' := by
  have ownlt : ∀ y ∈ g.own, y.1 < w.heap.size := fun y hy => (H.own y hy).lt
  have roomlt : ∀ y ∈ g.rooms, ∀ b, roomBlock y.1 = some b → b < w.heap.size := fun y hy b hb => (H.room y hy).lt hb
  have maplt : ∀ y ∈ g.maps, y.1 < w.heap.size := fun y hy => (H.mp.at_ y hy).lt
  have rcells : ∀ y ∈ g.rooms, ∀ b, roomBlock y.1 = some b → ∃ vs ty, w.heap[b]? = some (.cells vs ty (0, 0)) := fun y hy b hb => by
    have := H.room y hy
    unfold RoomOk at this
    unfold roomBlock at hb
    split at hb
    · rename_i ad n c e
      simp only [e] at this
      obtain ⟨_, _, _, _, ⟨vs, h5, _⟩, _⟩ := this
      cases hb; exact ⟨vs, _, h5⟩
    · cases hb
  -- the blocks of m
  have mo : ∀ b, b ∈ m.own.map (·.1) → ∃ y ∈ picks io g.own, y.1 = b := fun b hb => by
    obtain ⟨y, hy, rfl⟩ := List.mem_map.1 hb
    obtain ⟨ds, h1, _⟩ := ho.mem y hy
    exact ⟨_, h1, rfl⟩
  have nodO' : (g.own.filterMap fun x => some x.1).Nodup := by rw [filterMap_some_map (f := fun x : Nat × TypeId × List A => x.1)]; exact H.nodup
  have nodM' : (g.maps.filterMap fun x => some x.1).Nodup := by rw [filterMap_some_map (f := fun x : Nat × List (Value × A) => x.1)]; exact H.mp.nodup
  have notO : ∀ y ∈ others io g.own, ¬ m.blk y.1 := fun y hy h => by
    have hyg := (others_sub io g.own).subset hy
    obtain ⟨_, vs, hb, _⟩ := H.own y hyg
    rcases h with h | h | h
    · obtain ⟨z, hz, e⟩ := mo _ h
      exact picks_others (f := fun x : Nat × TypeId × List A => some x.1) nodO' hz hy (b := y.1) (by rw [e]) rfl
    · rw [hr] at h
      obtain ⟨z, hz, e⟩ := List.mem_filterMap.1 h
      exact (H.roomB z (mem_picks hz) _ e).2 (List.mem_map.2 ⟨y, hyg, rfl⟩)
    · rw [hm] at h
      obtain ⟨z, hz, e⟩ := List.mem_map.1 h
      obtain ⟨arr, cl, q, _⟩ := H.mp.at_ z (mem_picks hz)
      rw [e, hb] at q; cases q
  have notR : ∀ y ∈ others ir g.rooms, ∀ b, roomBlock y.1 = some b → ¬ m.blk b := fun y hy b hyb h => by
    have hyg := (others_sub ir g.rooms).subset hy
    obtain ⟨vs, ty, hb⟩ := rcells y hyg b hyb
    rcases h with h | h | h
    · obtain ⟨z, hz, e⟩ := mo _ h
      exact (H.roomB y hyg b hyb).2 (List.mem_map.2 ⟨z, mem_picks hz, e⟩)
    · rw [hr] at h
      obtain ⟨z, hz, e⟩ := List.mem_filterMap.1 h
      exact picks_others (f := fun x : Value × Nat × Nat => roomBlock x.1) H.roomN hz hy e hyb
    · rw [hm] at h
      obtain ⟨z, hz, e⟩ := List.mem_map.1 h
      obtain ⟨arr, cl, q, _⟩ := H.mp.at_ z (mem_picks hz)
      rw [e, hb] at q; cases q
  have notM : ∀ y ∈ others im g.maps, ¬ m.blk y.1 := fun y hy h => by
    have hyg := (others_sub im g.maps).subset hy
    obtain ⟨arr, cl, q, _⟩ := H.mp.at_ y hyg
    rcases h with h | h | h
    · obtain ⟨z, hz, e⟩ := mo _ h
      obtain ⟨_, vs, hb, _⟩ := H.own z (mem_picks hz)
      rw [e, q] at hb; cases hb
    · rw [hr] at h
      obtain ⟨z, hz, e⟩ := List.mem_filterMap.1 h
      obtain ⟨vs, ty, hb⟩ := rcells z (mem_picks hz) _ e
      rw [q] at hb; cases hb
    · rw [hm] at h
      obtain ⟨z, hz, e⟩ := List.mem_map.1 h
      exact picks_others (f := fun x : Nat × List (Value × A) => some x.1) nodM' hz hy (b := y.1) (by rw [e]) rfl
  have base : ∀ b, m.blk b → E.base b := fun b h => by
    rcases h with h | h | h
    · obtain ⟨z, hz, e⟩ := mo _ h; rw [← e]; exact H.ownB z (mem_picks hz)
    · rw [hr] at h
      obtain ⟨z, hz, e⟩ := List.mem_filterMap.1 h
      exact (H.roomB z (mem_picks hz) b e).1
    · rw [hm] at h
      obtain ⟨z, hz, e⟩ := List.mem_map.1 h
      rw [← e]; exact H.mp.base z (mem_picks hz)
  have base' : ∀ b, (m' x).blk b → E.base b := fun b h => (bx b h).elim (base b) fun q => .inr (Nat.le_trans H.size q)
  have sn : ∀ b, b < w.heap.size → ¬ m.blk b → ∀ o sp, r ⟨b, o, sp⟩ = none → s ⟨b, o, sp⟩ = none := fun b hb hn o sp e => by
    cases hs : s ⟨b, o, sp⟩ with
    | none => rfl
    | some v =>
      rcases gx.fresh _ _ hs with q | ⟨q | q, _⟩
      · rw [e] at q; cases q
      · exact absurd q hn
      · exact absurd q (by simp; omega)
  exact {
    le := H.le.trans_le gx.le
    cps := fun c hc => Rho.le_trans (H.cps c hc) gx.le
    ok := gx.ok
    fresh := fun y v e => by
      rcases gx.fresh y v e with q | ⟨q | q, u⟩
      · rcases H.fresh y v q with k | k
        · exact .inl k
        · exact .inr ⟨k.1, gx.unf _ (Rho.ok_lt H.ok q) k.2⟩
      · exact .inr ⟨base _ q, u⟩
      · exact .inr ⟨.inr (Nat.le_trans H.size q), u⟩
    size := Nat.le_trans H.size gx.size
    block := fun k hk hx => by
      rw [gx.block k (Nat.lt_of_lt_of_le hk H.size) (fun q => (base k q).elim hx (fun h => by omega))]
      exact H.block k hk hx
    unf := fun b hb hu => gx.unf b (Nat.lt_of_lt_of_le hb H.size) (H.unf b hb hu)
    os := gx.os.trans H.os
    tape := gx.tape.trans H.tape
    output := gx.output.trans H.output
    slots := hs
    own := fun y hy => by
      rcases List.mem_append.1 hy with hy | hy
      · exact mx.own y hy
      · have hyg := (others_sub io g.own).subset hy
        obtain ⟨h1, vs, h2, h3⟩ := H.own y hyg
        exact ⟨fun o sp => sn _ (ownlt y hyg) (notO y hy) o sp (h1 o sp), vs, by rw [gx.block _ (ownlt y hyg) (notO y hy)]; exact h2, h3.mono gx.le⟩
    ownB := fun y hy => by
      rcases List.mem_append.1 hy with hy | hy
      · exact base' _ (.inl (List.mem_map.2 ⟨y, hy, rfl⟩))
      · exact H.ownB y ((others_sub io g.own).subset hy)
    nodup := by
      rw [List.map_append]
      refine nodup_append_of mx.nodO (H.nodup.sublist ((others_sub io g.own).map _)) fun b hb hb' => ?_
      obtain ⟨y, hy, rfl⟩ := List.mem_map.1 hb'
      have hlt := ownlt y ((others_sub io g.own).subset hy)
      exact (bx _ (.inl hb)).elim (notO y hy) (fun q => by omega)
    room := fun y hy => by
      rcases List.mem_append.1 hy with hy | hy
      · exact mx.room y hy
      · have hyg := (others_sub ir g.rooms).subset hy
        have hR := H.room y hyg
        have hlt := roomlt y hyg
        have hnb := notR y hy
        unfold RoomOk at hR ⊢
        split at hR
        · exact hR
        · rename_i ad n c e
          obtain ⟨h1, h2, h3, h4, ⟨vs, h5, h6⟩, h7⟩ := hR
          have hb : roomBlock y.1 = some ad.block := by rw [e]; rfl
          exact ⟨h1, h2, h3, h4, ⟨vs, by rw [gx.block _ (hlt _ hb) (hnb _ hb)]; exact h5, h6⟩, fun o sp q => sn _ (hlt _ hb) (hnb _ hb) o sp (h7 o sp q)⟩
        · exact hR
    roomB := fun y hy b hb => by
      rcases List.mem_append.1 hy with hy | hy
      · have hyb : (m' x).blk b := .inr (.inl (List.mem_filterMap.2 ⟨y, hy, hb⟩))
        refine ⟨base' _ hyb, fun h => ?_⟩
        rw [List.map_append] at h
        rcases List.mem_append.1 h with h | h
        · exact mx.roomD y hy b hb h
        · obtain ⟨z, hz, rfl⟩ := List.mem_map.1 h
          have hlt := ownlt z ((others_sub io g.own).subset hz)
          exact (bx _ hyb).elim (notO z hz) (fun q => by omega)
      · have hyg := (others_sub ir g.rooms).subset hy
        obtain ⟨h1, h2⟩ := H.roomB y hyg b hb
        refine ⟨h1, fun h => ?_⟩
        rw [List.map_append] at h
        rcases List.mem_append.1 h with h | h
        · have hlt := roomlt y hyg b hb
          exact (bx _ (.inl h)).elim (notR y hy b hb) (fun q => by omega)
        · exact h2 (((others_sub io g.own).map _).subset h)
    roomN := by
      rw [List.filterMap_append]
      refine nodup_append_of mx.nodR (H.roomN.sublist ((others_sub ir g.rooms).filterMap _)) fun b hb hb' => ?_
      obtain ⟨y, hy, e⟩ := List.mem_filterMap.1 hb'
      have hlt := roomlt y ((others_sub ir g.rooms).subset hy) b e
      exact (bx _ (.inr (.inl hb))).elim (notR y hy b e) (fun q => by omega)
    mp := {
      at_ := fun y hy => by
        rcases List.mem_append.1 hy with hy | hy
        · exact mx.maps y hy
        · have hyg := (others_sub im g.maps).subset hy
          obtain ⟨arr, cl, h1, h2, h3⟩ := H.mp.at_ y hyg
          exact ⟨arr, cl, by rw [gx.block _ (maplt y hyg) (notM y hy)]; exact h1, h2, h3.mono gx.le⟩
      un := fun y hy o sp => by
        rcases List.mem_append.1 hy with hy | hy
        · exact mx.mapu y hy o sp
        · have hyg := (others_sub im g.maps).subset hy
          exact sn _ (maplt y hyg) (notM y hy) o sp (H.mp.un y hyg o sp)
      base := fun y hy => by
        rcases List.mem_append.1 hy with hy | hy
        · exact base' _ (.inr (.inr (List.mem_map.2 ⟨y, hy, rfl⟩)))
        · exact H.mp.base y ((others_sub im g.maps).subset hy)
      nodup := by
        rw [List.map_append]
        refine nodup_append_of mx.nodM (H.mp.nodup.sublist ((others_sub im g.maps).map _)) fun b hb hb' => ?_
        obtain ⟨y, hy, rfl⟩ := List.mem_map.1 hb'
        have hlt := maplt y ((others_sub im g.maps).subset hy)
        exact (bx _ (.inr (.inr hb))).elim (notM y hy) (fun q => by omega)
      obj := fun y hy => by
        obtain ⟨h1, h2, h3, h4⟩ := H.mp.obj y hy
        have hlt := (Array.getElem?_eq_some_iff.1 h1).1
        refine ⟨?_, h2, h3, h4⟩
        rw [gx.block _ hlt]
        · exact h1
        · intro q
          rcases q with q | q | q
          · obtain ⟨z, hz, e⟩ := mo _ q
            obtain ⟨_, vs, hb, _⟩ := H.own z (mem_picks hz)
            rw [e, h1] at hb; rw [Option.some.inj hb] at h2; simp [Obj.isCells] at h2
          · rw [hr] at q
            obtain ⟨z, hz, e⟩ := List.mem_filterMap.1 q
            obtain ⟨vs, ty, hb⟩ := rcells z (mem_picks hz) _ e
            rw [h1] at hb; rw [Option.some.inj hb] at h2; simp [Obj.isCells] at h2
          · rw [hm] at q
            obtain ⟨z, hz, e⟩ := List.mem_map.1 q
            obtain ⟨arr, cl, hb, _⟩ := H.mp.at_ z (mem_picks hz)
            rw [e, h1] at hb; rw [Option.some.inj hb] at h4; simp [isMapO] at h4
      objN := H.mp.objN } }

theorem MemOk.picks {r : Rho} {a : Act} {w : World} (H : HoldsAt E g r a w) (io ir im : List Nat) {m : Mem} (hi : io.Nodup) (hj : ir.Nodup) (hk : im.Nodup)
    (ho : OSub m.own (picks io g.own)) (hr : m.rooms = L.picks ir g.rooms) (hm : m.maps = L.picks im g.maps) : MemOk r w m := by
  have nodP : ∀ {S : Type} (f : S → Option Nat) (io : List Nat) (l : List S), io.Nodup → (l.filterMap f).Nodup → ((L.picks io l).filterMap f).Nodup := by
    intro S f io l
    induction io with
    | nil => intro _ _; simp [L.picks]
    | cons i io ih =>
      intro hn hl
      rw [List.nodup_cons] at hn
      unfold L.picks
      rw [nth_eq]
      cases hli : l[i]? with
      | none => exact ih hn.2 hl
      | some y =>
        simp only
        rw [List.filterMap_cons]
        cases hfy : f y with
        | none => exact ih hn.2 hl
        | some b =>
          simp only
          rw [List.nodup_cons]
          refine ⟨fun hb => ?_, ih hn.2 hl⟩
          obtain ⟨z, hz, hfz⟩ := List.mem_filterMap.1 hb
          obtain ⟨j, hj, hlj⟩ := mem_picks' hz
          have := nodup_filterMap_get hl hli hlj hfy hfz
          subst this; exact hn.1 hj
  have nodO' : (g.own.filterMap fun x => some x.1).Nodup := by rw [filterMap_some_map (f := fun x : Nat × TypeId × List A => x.1)]; exact H.nodup
  have nodM' : (g.maps.filterMap fun x => some x.1).Nodup := by rw [filterMap_some_map (f := fun x : Nat × List (Value × A) => x.1)]; exact H.mp.nodup
  have ok : OwnOk r w (L.picks io g.own) := fun x hx => H.own x (mem_picks hx)
  refine ⟨ho.ok ok, fun x hx => ?_, fun x hx => ?_, fun x hx => ?_, ?_, fun x hx b hb hm' => ?_, ?_, ?_⟩
  · rw [hr] at hx; exact H.room x (mem_picks hx)
  · rw [hm] at hx; exact H.mp.at_ x (mem_picks hx)
  · rw [hm] at hx; exact H.mp.un x (mem_picks hx)
  · have := nodP (fun x : Nat × TypeId × List A => some x.1) io g.own hi nodO'
    rw [filterMap_some_map (f := fun x : Nat × TypeId × List A => x.1)] at this
    exact this.sublist ho.fst
  · rw [hr] at hx
    refine (H.roomB x (mem_picks hx) b hb).2 ?_
    obtain ⟨y, hy, e⟩ := List.mem_map.1 hm'
    obtain ⟨ds, h1, _⟩ := ho.mem y hy
    exact List.mem_map.2 ⟨_, mem_picks h1, e⟩
  · rw [hr]; exact nodP _ ir g.rooms hj H.roomN
  · rw [hm]
    have := nodP (fun x : Nat × List (Value × A) => some x.1) im g.maps hk nodM'
    rwa [filterMap_some_map (f := fun x : Nat × List (Value × A) => x.1)] at this

theorem Marks.callX {m : Mem} {r : Rho} {a : Act} {w : World} (H : HoldsAt E g r a w) {s : Rho} {w' : World} (io ir im : List Nat) (ho : OSub m.own (L.picks io g.own)) (hr : m.rooms = L.picks ir g.rooms) (hm : m.maps = L.picks im g.maps) (gx : GrowX m.blk r w s w') :
    ∀ {l : List Deferred}, Marks E w l → Marks E w' l
  | [], _ => trivial
  | _ :: _, ⟨⟨b, h1, h2, h3, h4⟩, k⟩ => ⟨⟨b, h1, h2, (by
      rw [gx.block b (Array.getElem?_eq_some_iff.1 h3).1]
      · exact h3
      · intro q
        rcases q with q | q | q
        · obtain ⟨z, hz, e⟩ := List.mem_map.1 q
          obtain ⟨ds, q1, _⟩ := ho.mem z hz
          obtain ⟨_, vs, hb, _⟩ := H.own _ (mem_picks q1)
          simp only at hb
          rw [e, h3] at hb; cases hb
        · rw [hr] at q
          obtain ⟨z, hz, e⟩ := List.mem_filterMap.1 q
          have := H.room z (mem_picks hz)
          unfold RoomOk at this
          unfold roomBlock at e
          split at e
          · rename_i ad n c e'
            simp only [e'] at this
            obtain ⟨_, _, _, _, ⟨vs, h5, _⟩, _⟩ := this
            cases e; rw [h3] at h5; cases h5
          · cases e
        · rw [hm] at q
          obtain ⟨z, hz, e⟩ := List.mem_map.1 q
          obtain ⟨arr, cl, hb, _⟩ := H.mp.at_ z (mem_picks hz)
          rw [e, h3] at hb; cases hb), h4⟩, Marks.callX H io ir im ho hr hm gx k⟩

/-- A call that is handed memory. -/
theorem WL_callX {T : Type} (io ir im : List Nat) {d f : Nat} {ty : TypeId} {pos : String} {aft : Array Edge} {xs : List Operand} {ts : List A} {tt : Array TypeId} {m : Mem} {t : T → A} {m' : T → Mem}
    (hf : CallF E.P f) (h : FnX E.P f m ts t m') (hl : xs.length = ts.length) (hr : Reads g.sl true ((xs.zip ts).map fun z => (true, z.1, z.2)))
    (ho : OSub m.own (picks io g.own)) (hrm : m.rooms = picks ir g.rooms) (hm : m.maps = picks im g.maps) (hi : decide (io.Nodup ∧ ir.Nodup ∧ im.Nodup) = true) (hd : Nat.ble (d + 1) E.n = true)
    (k : ∀ x, WL E ops rest { g with sl := (d, true, t x) :: g.sl, own := (m' x).own ++ others io g.own, rooms := (m' x).rooms ++ others ir g.rooms, maps := (m' x).maps ++ others im g.maps } Q) :
    WL E ops (⟨some d, .call { callee := .value (.func f), args := xs.toArray, argTypes := tt }, ty, pos, aft, none⟩ :: rest) g Q := by
  intro a w ⟨h1, h2, r, H⟩
  have hu := hr.use rfl H.slots
  have hall := all2_args (r := r) hl hu
  obtain ⟨q1, q2, q3⟩ := of_decide_eq_true hi
  have hmem := MemOk.picks H io ir im q1 q2 q3 ho hrm hm
  have hcall := h r w _ H.ok hmem hall
  refine wpListIn_plain rfl fun K hK => ?_
  refine ⟨fun f _ => trivial, ?_⟩
  rw [Oper.semAt_eq _ _ _ (by simp)]
  show Oper.uponIn (fz E.rnd) 9 E.P _ a K Q ((execOp a.eval ⟨some d, .call { callee := .value (.func f), args := xs.toArray, argTypes := tt }, ty, pos, aft, none⟩).run E.P w)
  rw [exec_eq, run_callf hf, Oper.uponIn_enter]
  refine ⟨fun h => (by cases h), CallsIn.mono (calls_fz hcall) ?_⟩
  rintro e w'' ⟨v, s, x, rfl, gx, hv, mx, bx⟩
  refine hK _ _ (k x _ _ ⟨by rw [size_put]; exact h1, by rw [defers_put]; exact Marks.callX H io ir im ho hrm hm gx h2, s, ?_⟩)
  have hlt : d < a.tmps.size := by rw [h1]; exact Nat.le_of_ble_eq_true hd
  exact H.callX io ir im ho hrm hm gx mx bx (Slots.put (Slots.mono H.slots gx.le) hlt (fun _ => hv) (fun hc => by cases hc))

/-- A loop: J says what holds of the slots that it writes, O of the owned blocks io, R of the rooms ir, M of the maps im; the slots ks and the rest of the memory stay as they are. -/
theorem W_loopp {c : Code} {T : Type} (ks io ir im : List Nat) (q : T → Prop) (J : T → List (Nat × Bool × A)) (M : T → Mem) (m : T → Nat) (x0 : T) (hq : q x0) (h0 : Facts g.sl (J x0)) (hO : OSub (M x0).own (picks io g.own)) (hR : (M x0).rooms = picks ir g.rooms) (hM : (M x0).maps = picks im g.maps)
    (hi : decide (io.Nodup ∧ ir.Nodup ∧ im.Nodup) = true)
    (round : ∀ x, q x → W E c ⟨J x ++ keep g.sl ks, (M x).own ++ others io g.own, (M x).rooms ++ others ir g.rooms, (M x).maps ++ others im g.maps, g.objs, g.cps⟩ (Exit.then (fun a w => ∃ x', q x' ∧ m x' < m x ∧ Holds E ⟨J x' ++ keep g.sl ks, (M x').own ++ others io g.own, (M x').rooms ++ others ir g.rooms, (M x').maps ++ others im g.maps, g.objs, g.cps⟩ a w) Q)) : W E (.loop c) g Q := by
  obtain ⟨q1, q2, q3⟩ := of_decide_eq_true hi
  refine W_loop q (fun x => ⟨J x ++ keep g.sl ks, (M x).own ++ others io g.own, (M x).rooms ++ others ir g.rooms, (M x).maps ++ others im g.maps, g.objs, g.cps⟩) m ⟨x0, hq, fun a w ⟨h1, h2, r, H⟩ => ⟨h1, h2, r, ?_⟩⟩ round
  refine H.callX (T := T) (m := M x0) (m' := M) (x := x0) io ir im hO hR hM ⟨r.le_refl, H.ok, fun _ _ e => .inl e, Nat.le_refl _, fun _ _ _ => rfl, fun _ _ h => h, rfl, rfl, rfl⟩ (MemOk.picks H io ir im q1 q2 q3 hO hR hM) (fun _ h => .inl h) ?_
  intro s b t e
  obtain ⟨rfl, u, hu, k⟩ := (Facts.append h0 (Facts.keep Kept.self)).use e
  exact ⟨fun _ => k _ _ ((H.slots s true u hu).1 rfl), fun h => by cases h⟩
theorem Fin_backp {T : Type} {ks : List Nat} {q : T → Prop} {J : T → List (Nat × Bool × A)} {M : T → Mem} {m : T → Nat} {x : T} {ow : Own} {rm : List (Value × Nat × Nat)} {mp : List (Nat × List (Value × A))} {g' : Ctx} {N : Exit → Act → World → Prop} (io : List Nat) (x' : T) (hq : q x') (hm : m x' < m x) (h : Facts g'.sl (J x'))
    (hk : Kept g.sl g'.sl ks) (ho : OSub ((M x').own ++ ow) (picks io g'.own)) (hi : decide io.Nodup = true) (hr : ((M x').rooms ++ rm).Sublist g'.rooms) (hmm : (M x').maps ++ mp = g'.maps) (hob : g.objs = g'.objs := by rfl) (hc : g.cps = g'.cps := by rfl) :
    Fin E g' .normal (Exit.then (fun a w => ∃ x', q x' ∧ m x' < m x ∧ Holds E ⟨J x' ++ keep g.sl ks, (M x').own ++ ow, (M x').rooms ++ rm, (M x').maps ++ mp, g.objs, g.cps⟩ a w) N) := by
  intro a w ⟨h1, h2, r, H⟩
  have hO : OSub (⟨picks io g'.own, g'.rooms, g'.maps⟩ : Mem).own (picks io g'.own) := OSub.refl
  have hmem := (MemOk.picks H io [] [] (m := ⟨picks io g'.own, [], []⟩) (of_decide_eq_true hi) List.nodup_nil List.nodup_nil OSub.refl rfl rfl)
  have H1 : HoldsAt E { g' with own := picks io g'.own } r a w := H.reown (fun x hx => mem_picks hx) hmem.nodO
  exact ⟨x', hq, hm, Holds.less ⟨h1, h2, r, H1⟩ (Facts.append h (Facts.keep hk)) ho hr hmm hob (fun c h => hc ▸ h)⟩

/-- The ghost heap as it is now, by a name; facts of some slots are said of it. -/
def atSlots (c : Rho) (ss : List Nat) : List (Nat × Bool × A) → List (Nat × Bool × A)
  | [] => []
  | (s, b, t) :: l => (s, b, if b && ss.contains s then A.at_ c t else t) :: atSlots c ss l
theorem look_atSlots {c : Rho} {ss : List Nat} {s : Nat} {b : Bool} {u : A} : ∀ {l : List (Nat × Bool × A)}, look (atSlots c ss l) s = some (b, u) → ∃ t, look l s = some (b, t) ∧ (u = t ∨ (b = true ∧ u = A.at_ c t))
  | (s', b', t') :: l, h => by
    simp only [atSlots, look] at h ⊢
    by_cases e : s' = s
    · rw [if_pos (by simpa using e)] at h ⊢
      cases h
      refine ⟨t', rfl, ?_⟩
      by_cases q : (b && ss.contains s') = true
      · rw [if_pos q]; exact .inr ⟨by simp at q; exact q.1, rfl⟩
      · rw [if_neg q]; exact .inl rfl
    · rw [if_neg (by simpa using e)] at h ⊢
      exact look_atSlots h
theorem WL_cp {l : List Oper} (ss : List Nat) (h : ∀ c : Rho, (∀ a, E.r0 a ≠ none → c a ≠ none) → WL E ops l { g with sl := atSlots c ss g.sl, cps := c :: g.cps } Q) : WL E ops l g Q := by
  intro a w ⟨h1, h2, r, H⟩
  refine h r (fun a ha => ?_) a w ⟨h1, h2, r, { H with cps := fun c hc => (List.mem_cons.1 hc).elim (fun e => e ▸ r.le_refl) (H.cps c), slots := fun s b u e => ?_ }⟩
  · cases e : E.r0 a with
    | none => exact absurd e ha
    | some v => obtain ⟨v', q, _⟩ := H.le a v e; rw [q]; simp
  · obtain ⟨t, h3, h4⟩ := look_atSlots e
    have := H.slots s b t h3
    rcases h4 with rfl | ⟨rfl, rfl⟩
    · exact this
    · exact ⟨fun _ => ⟨r.le_refl, this.1 rfl⟩, fun e => by cases e⟩

/-- Known still when cells beyond c have turned to others of their kind. -/
def KI (c : Rho) (u t : A) : Prop := ∀ r s v, c.le r → c.le s → r.leK (r.beyond c) s → u.p r v → t.p s v
theorem KI.pure {c : Rho} {u : A} (h : Pure u) : KI c u u := fun _ _ _ _ _ _ k => h _ _ _ k
theorem KI.val {c : Rho} {v : Value} : KI c (A.val v) (A.val v) := KI.pure Pure.val
theorem KI.at_ {c : Rho} {u : A} : KI c (A.at_ c u) (A.at_ c u) := fun _ _ _ _ h _ k => ⟨h, k.2⟩
/-- Said of the shape alone. -/
def KS (u : A) : Prop := ∀ (r s : Rho) v, r.leK (fun _ => True) s → u.p r v → u.p s v
theorem KI.nw {c : Rho} {u : A} (h : KS u) : KI c (A.nw c u) (A.nw c u) := fun r s v _ h2 h3 k => ⟨h2, h _ _ _ (fun a x e => by
    have hc : c a = none := by
      unfold Rho.minus at e; split at e
      · assumption
      · cases e
    obtain ⟨x', e1, e2⟩ := h3 a x (Rho.minus_le _ _ _ _ e)
    refine ⟨x', by unfold Rho.minus; rw [if_pos hc]; exact e1, e2.imp id fun q => ⟨trivial, q.2⟩⟩) k.2⟩
def FactsK (c : Rho) (av : List (Nat × Bool × A)) : List (Nat × Bool × A) → Prop
  | [] => True
  | (s, b, t) :: l => (b = true ∧ ∃ u, look av s = some (true, u) ∧ KI c u t) ∧ FactsK c av l
theorem FactsK.use {c : Rho} {av : List (Nat × Bool × A)} {s : Nat} {b : Bool} {t : A} : ∀ {l : List (Nat × Bool × A)}, FactsK c av l → look l s = some (b, t) → b = true ∧ ∃ u, look av s = some (true, u) ∧ KI c u t
  | (s', c', t') :: l, h, e => by
    unfold look at e
    by_cases q : s' = s
    · subst q; simp at e; obtain ⟨rfl, rfl⟩ := e; exact h.1
    · rw [if_neg (by simpa using q)] at e; exact FactsK.use h.2 e
def AllKI (c : Rho) : List A → List A → Prop
  | [], [] => True
  | u :: l, t :: m => KI c u t ∧ AllKI c l m
  | _, _ => False
theorem AllKI.all2 {c r s : Rho} (h1 : c.le r) (h2 : c.le s) (h3 : r.leK (r.beyond c) s) : ∀ {l m : List A} {vs : List Value}, AllKI c l m → All2 r l vs → All2 s m vs
  | [], [], [], _, _ => trivial
  | [], [], _ :: _, _, k => k.elim
  | _ :: _, _ :: _, _ :: _, h, k => ⟨h.1 _ _ _ h1 h2 h3 k.1, AllKI.all2 h1 h2 h3 h.2 k.2⟩
  | _ :: _, _ :: _, [], _, k => k.elim
  | [], _ :: _, _, h, _ => h.elim
  | _ :: _, [], _, h, _ => h.elim
/-- Owned blocks kept, where no more is said than of kinds. -/
inductive OKI (c : Rho) : Own → Own → Prop
  | nil : OKI c [] []
  | cons {l m : Own} {b ty : Nat} {cs ds : List A} (h : AllKI c ds cs) (k : OKI c l m) : OKI c ((b, ty, cs) :: l) ((b, ty, ds) :: m)
theorem OKI.mem {c : Rho} {l m : Own} (h : OKI c l m) : ∀ x ∈ l, ∃ ds, (x.1, x.2.1, ds) ∈ m ∧ AllKI c ds x.2.2 := by
  induction h with
  | nil => intro x hx; cases hx
  | cons h k ih =>
    intro x hx
    rcases List.mem_cons.1 hx with rfl | hx
    · exact ⟨_, List.mem_cons_self .., h⟩
    · obtain ⟨ds, h1, h2⟩ := ih x hx; exact ⟨ds, List.mem_cons_of_mem _ h1, h2⟩
theorem OKI.fst {c : Rho} {l m : Own} (h : OKI c l m) : l.map (·.1) = m.map (·.1) := by
  induction h with
  | nil => rfl
  | cons h k ih => simp [ih]

/-- Behind a turn of cells beyond c. -/
theorem HoldsAt.turn {c : Rho} {r s : Rho} {a a' : Act} {w w' : World} (H : HoldsAt E g r a w) {g' : Ctx} (hc : c ∈ g.cps) (hE : ∀ a, E.r0 a ≠ none → c a = none → a.spot = none → E.K a) (gx : GrowK (r.beyond c) r w s w')
    (ho : OKI c g'.own g.own) (hr : g'.rooms = []) (hm : g'.maps = []) (hob : g'.objs = []) (hcp : g'.cps = [c]) (hs : Slots s a' g'.sl) : HoldsAt E g' s a' w' := by
  have hcr := H.cps c hc
  have hcs : c.le s := fun x v e => by
    obtain ⟨v', e1, e2 | ⟨e2, _⟩⟩ := gx.le x v (hcr _ _ e)
    · rw [e1, e2]
    · rw [e2.1] at e; cases e
  have base : ∀ b, r.beyond c b → E.base b.block ∧ b.block < w.heap.size ∧ Unf w b.block := fun b hb => by
    obtain ⟨h1, h0, v, h2⟩ := hb
    refine ⟨?_, Rho.ok_lt H.ok h2, ?_⟩
    · rcases H.fresh b v h2 with ⟨⟨v0, k1⟩, k2⟩ | k
      · exact absurd (hE b (by rw [k1]; simp) h1 h0) k2
      · exact k.1
    · rcases H.fresh b v h2 with ⟨⟨v0, k1⟩, k2⟩ | k
      · exact absurd (hE b (by rw [k1]; simp) h1 h0) k2
      · exact k.2
  have nb : ∀ y ∈ g.own, ∀ b, r.beyond c b → b.block ≠ y.1 := fun y hy b hb e => by
    obtain ⟨_, _, v, h2⟩ := hb
    have := (H.own y hy).1 b.off b.spot
    rw [← e] at this
    have e3 : r b = none := this
    rw [e3] at h2; cases h2
  exact {
    le := fun x v e => by
      obtain ⟨v1, h1, h2⟩ := H.le x v e
      obtain ⟨v2, k1, k2⟩ := gx.le x v1 h1
      refine ⟨v2, k1, ?_⟩
      rcases k2 with rfl | ⟨k2, k3⟩
      · exact h2
      · have hk := hE x (by rw [e]; simp) k2.1 k2.2.1
        rcases h2 with rfl | ⟨_, h3⟩
        · exact .inr ⟨hk, k3⟩
        · exact .inr ⟨hk, h3.trans k3⟩
    cps := fun c' hc' => by rw [hcp] at hc'; rcases List.mem_singleton.1 hc' with rfl; exact hcs
    ok := gx.ok
    fresh := fun x v e => by
      rcases gx.fresh x v e with ⟨⟨v0, q⟩, q2⟩ | ⟨q | q, u⟩
      · rcases H.fresh x v0 q with k | k
        · exact .inl k
        · exact .inr ⟨k.1, gx.unf _ (Rho.ok_lt H.ok q) k.2⟩
      · obtain ⟨b, hb, e'⟩ := q
        exact .inr ⟨e' ▸ (base b hb).1, u⟩
      · exact .inr ⟨.inr (Nat.le_trans H.size q), u⟩
    size := Nat.le_trans H.size gx.size
    block := fun k hk hx => by
      rw [gx.block k (Nat.lt_of_lt_of_le hk H.size) (fun b hb e => (base b hb).1.elim (fun h => hx (e ▸ h)) (fun h => by omega))]
      exact H.block k hk hx
    unf := fun b hb hu => gx.unf b (Nat.lt_of_lt_of_le hb H.size) (H.unf b hb hu)
    os := gx.os.trans H.os
    tape := gx.tape.trans H.tape
    output := gx.output.trans H.output
    slots := hs
    own := fun y hy => by
      obtain ⟨ds, hy2, himp⟩ := ho.mem y hy
      have hnb : ∀ b, r.beyond c b → b.block ≠ y.1 := nb (y.1, y.2.1, ds) hy2
      have hlt : y.1 < w.heap.size := (H.own (y.1, y.2.1, ds) hy2).lt
      obtain ⟨h1, vs, h2, h3⟩ := H.own (y.1, y.2.1, ds) hy2
      refine ⟨fun o sp => ?_, vs, by rw [gx.block _ hlt hnb]; exact h2, himp.all2 hcr hcs gx.le h3⟩
      cases hss : s ⟨y.1, o, sp⟩ with
      | none => rfl
      | some v =>
        rcases gx.fresh _ _ hss with ⟨⟨v0, q⟩, _⟩ | ⟨⟨b, q, e⟩ | q, _⟩
        · rw [h1 o sp] at q; cases q
        · exact absurd e (hnb b q)
        · exact absurd q (by simp; omega)
    ownB := fun y hy => by obtain ⟨ds, h1, _⟩ := ho.mem y hy; exact H.ownB (y.1, y.2.1, ds) h1
    nodup := by rw [ho.fst]; exact H.nodup
    room := by rw [hr]; exact fun _ h => (by cases h)
    roomB := by rw [hr]; exact fun _ h => (by cases h)
    roomN := by rw [hr]; exact List.nodup_nil
    mp := by rw [hm, hob]; exact MapsOk.nil }

theorem Marks.turn {c r s : Rho} {a : Act} {w w' : World} (H : HoldsAt E g r a w) (gx : GrowK (r.beyond c) r w s w') : ∀ {l : List Deferred}, Marks E w l → Marks E w' l
  | [], _ => trivial
  | _ :: _, ⟨⟨b, h1, h2, h3, h4⟩, k⟩ => ⟨⟨b, h1, h2, (by
      rw [gx.block b (Array.getElem?_eq_some_iff.1 h3).1]
      · exact h3
      · intro x hx e
        obtain ⟨_, hsp, v, hv⟩ := id hx
        have := H.ok x v hv
        rw [e, h3] at this
        unfold gc at this
        rw [hsp] at this
        cases this), h4⟩, Marks.turn H gx k⟩
end
end Go.L
/-! Writing numbers into what was handed over; owned slices. -/
namespace Go.L
open Go Go.RowKit

/-- Known of what is beyond c. -/
def NwI (c : Rho) (u t : A) : Prop := ∀ r v, c.le r → u.p r v → t.p (r.minus c) v
theorem NwI.nw {c : Rho} {t : A} : NwI c (A.nw c t) t := fun _ _ _ k => k.2
theorem NwI.pure {c : Rho} {t : A} (h : Pure t) : NwI c t t := fun _ _ _ k => h _ _ _ k
theorem NwI.val {c : Rho} {v : Value} : NwI c (A.val v) (A.val v) := fun _ _ _ k => k
def AllNw (c : Rho) : List A → List A → Prop
  | [], [] => True
  | u :: l, t :: m => NwI c u t ∧ AllNw c l m
  | _, _ => False
theorem AllNw.all2 {c r : Rho} (h1 : c.le r) : ∀ {l m : List A} {vs : List Value}, AllNw c l m → All2 r l vs → All2 (r.minus c) m vs
  | [], [], [], _, _ => trivial
  | [], [], _ :: _, _, k => k.elim
  | _ :: _, _ :: _, _ :: _, h, k => ⟨h.1 _ _ h1 k.1, AllNw.all2 h1 h.2 k.2⟩
  | _ :: _, _ :: _, [], _, k => k.elim
  | [], _ :: _, _, h, _ => h.elim
  | _ :: _, [], _, h, _ => h.elim

section
variable {E : Env} {g : Ctx} {Q : Exit → Act → World → Prop} {ops : Array Oper} {rest : List Oper}

theorem HoldsAt.beyond_unf {c r : Rho} {a : Act} {w : World} (H : HoldsAt E g r a w) (hE : ∀ a, E.r0 a ≠ none → c a = none → a.spot = none → E.K a) {b : Addr} (hb : r.beyond c b) : Unf w b.block := by
  obtain ⟨h1, h0, v, h2⟩ := hb
  rcases H.fresh b v h2 with ⟨⟨v0, k1⟩, k2⟩ | k
  · exact absurd (hE b (by rw [k1]; simp) h1 h0) k2
  · exact k.2

/-- A call of a function that writes numbers and bools into what it is handed. -/
theorem WL_callK (c : Rho) (J : List (Nat × Bool × A)) (O : Own) {d f : Nat} {ty : TypeId} {pos : String} {aft : Array Edge} {xs : List Operand} {us ts : List A} {tt : Array TypeId} {t : A}
    (hf : CallF E.P f) (h : FnK E.P f ts t) (hl : xs.length = us.length) (hr : Reads g.sl true ((xs.zip us).map fun z => (true, z.1, z.2))) (hn : AllNw c us ts) (hc : c ∈ g.cps)
    (hE : ∀ a, E.r0 a ≠ none → c a = none → a.spot = none → E.K a) (hJ : FactsK c g.sl J) (hO : OKI c O g.own) (hob : g.objs = []) (hd : Nat.ble (d + 1) E.n = true)
    (k : WL E ops rest ⟨(d, true, t) :: J, O, [], [], [], [c]⟩ Q) :
    WL E ops (⟨some d, .call { callee := .value (.func f), args := xs.toArray, argTypes := tt }, ty, pos, aft, none⟩ :: rest) g Q := by
  intro a w ⟨h1, h2, r, H⟩
  have hcr := H.cps c hc
  have hall := hn.all2 hcr (all2_args (r := r) hl (hr.use rfl H.slots))
  have hcall := h c r w _ H.ok hcr (fun b hb => H.beyond_unf hE hb) hall
  refine wpListIn_plain rfl fun K hK => ?_
  refine ⟨fun f _ => trivial, ?_⟩
  rw [Oper.semAt_eq _ _ _ (by simp)]
  show Oper.uponIn (fz E.rnd) 9 E.P _ a K Q ((execOp a.eval ⟨some d, .call { callee := .value (.func f), args := xs.toArray, argTypes := tt }, ty, pos, aft, none⟩).run E.P w)
  rw [exec_eq, run_callf hf, Oper.uponIn_enter]
  refine ⟨fun h => (by cases h), CallsIn.mono (calls_fz hcall) ?_⟩
  rintro e w'' ⟨v, s, rfl, gx, hv⟩
  refine hK _ _ (k _ _ ⟨by rw [size_put]; exact h1, by rw [defers_put]; exact Marks.turn H gx h2, s, ?_⟩)
  have hlt : d < a.tmps.size := by rw [h1]; exact Nat.le_of_ble_eq_true hd
  have hcs : c.le s := fun x v e => by
    obtain ⟨v', e1, e2 | ⟨e2, _⟩⟩ := gx.le x v (hcr _ _ e)
    · rw [e1, e2]
    · rw [e2.1] at e; cases e
  refine H.turn (g' := ⟨(d, true, t) :: J, O, [], [], [], [c]⟩) hc hE gx hO rfl rfl rfl rfl ?_
  refine Slots.put (fun s' b u e => ?_) hlt (fun _ => hv s) (fun hc => by cases hc)
  obtain ⟨rfl, u', hu, hk⟩ := hJ.use e
  exact ⟨fun _ => hk r s _ hcr hcs gx.le ((H.slots s' true u' hu).1 rfl), fun h => by cases h⟩

def A.anyI : A := A.ex A.int
def A.anyB : A := A.ex A.bool
/-- A value of the kind of a cell. -/
def KindOf (k u : A) : Prop := ∀ r s v v', k.p r v → u.p s v' → SameKind v v' ∧ v'.cells = #[v'] ∧ v'.oneCell' = true
theorem KindOf.int {n : Int} : KindOf A.anyI (A.int n) := fun _ _ _ _ ⟨m, h⟩ k => by
  have h : _ = _ := h
  have k : _ = _ := k
  subst h; subst k; exact ⟨.inl ⟨_, _, _, rfl, rfl⟩, rfl, rfl⟩
theorem KindOf.bool {n : Bool} : KindOf A.anyB (A.bool n) := fun _ _ _ _ ⟨m, h⟩ k => by
  have h : _ = _ := h
  have k : _ = _ := k
  subst h; subst k; exact ⟨.inr ⟨_, _, rfl, rfl⟩, rfl, rfl⟩

/-- A number or a bool is written into what was handed over. -/
theorem WL_storeK (c : Rho) (J : List (Nat × Bool × A)) (O : Own) {T : Nat} {ad x : Operand} {ty : TypeId} {pos : String} {aft : Array Edge} {kd u : A} {cells : List A}
    (hr : Reads g.sl true [(true, ad, A.nw c (A.pt (kd :: cells))), (true, x, u)]) (hk : KindOf kd u) (hs : sizeAt E.P T = some 1) (hc : c ∈ g.cps)
    (hE : ∀ a, E.r0 a ≠ none → c a = none → a.spot = none → E.K a) (hJ : FactsK c g.sl J) (hO : OKI c O g.own) (hob : g.objs = [])
    (h : WL E ops rest ⟨J, O, [], [], [], [c]⟩ Q) :
    WL E ops (⟨none, .store T ad x, ty, pos, aft, none⟩ :: rest) g Q := by
  intro a w ⟨h1, h2, r, H⟩
  have hu := hr.use rfl H.slots
  have hcr := H.cps c hc
  obtain ⟨_, b, o, had, hca⟩ := hu (true, ad, A.nw c (A.pt (kd :: cells))) (by simp) rfl
  have had : a.eval ad = .pointer (some ⟨b, o, none⟩) := had
  have hx : u.p r (a.eval x) := hu (true, x, u) (by simp) rfl
  obtain ⟨v0, hv0, hkv⟩ := hca 0 kd (by simp)
  rw [Nat.add_zero] at hv0
  obtain ⟨hsk, hcl, hoc⟩ := hk _ _ _ _ hkv hx
  have hr0 : r ⟨b, o, none⟩ = some v0 := Rho.minus_le _ _ _ _ hv0
  have hcn : c ⟨b, o, none⟩ = none := by
    unfold Rho.minus at hv0; split at hv0
    · assumption
    · cases hv0
  have hbey : r.beyond c ⟨b, o, none⟩ := ⟨hcn, rfl, v0, hr0⟩
  have hunf := H.beyond_unf hE hbey
  have hgc := H.ok _ _ hr0
  obtain ⟨vs, tyb, hb, hvo⟩ : ∃ vs tyb, w.heap[b]? = some (.cells vs tyb (0, 0)) ∧ vs[o]? = some v0 := by
    unfold gc at hgc
    simp only at hgc
    split at hgc
    · rename_i cs e fr hcs
      have := hunf _ _ _ hcs
      subst this
      exact ⟨cs, e, hcs, hgc⟩
    · cases hgc
  have hlt := (Array.getElem?_eq_some_iff.1 hb).1
  have hlo := (Array.getElem?_eq_some_iff.1 hvo).1
  generalize hw' : w.putObj b (.cells (over vs.toList o [a.eval x]).toArray tyb (0, 0)) = w'
  have hrun : (execOp a.eval ⟨none, .store T ad x, ty, pos, aft, none⟩).run E.P w = .ok .skip w' := by
    have := run_storeCells (P := E.P) (off := o) (ty := tyb) [a.eval x] 0 vs w hb (by simp; omega) (by simpa using hoc)
    simp only [Nat.add_zero] at this
    simp [execOp, had, Instr.storeAt, Instr.sureAddr, storeVar, run_sizeOf hs, hcl, this, hw']
  have hover : over vs.toList o [a.eval x] = vs.toList.set o (a.eval x) := by
    unfold over
    rw [List.set_eq_take_append_cons_drop]
    simp [hlo]
  have hbw : w'.heap[b]? = some (.cells (over vs.toList o [a.eval x]).toArray tyb (0, 0)) := by rw [← hw']; exact World.putObj_heap_same hlt
  have hother : ∀ k, k ≠ b → w'.heap[k]? = w.heap[k]? := fun k hk => by rw [← hw']; exact World.putObj_heap_other hk
  let s : Rho := fun y => if y = ⟨b, o, none⟩ then some (a.eval x) else r y
  have hs1 : s ⟨b, o, none⟩ = some (a.eval x) := by show (if _ then _ else _) = _; rw [if_pos rfl]
  have hs2 : ∀ y, y ≠ ⟨b, o, none⟩ → s y = r y := fun y hy => by show (if _ then _ else _) = _; rw [if_neg hy]
  have gx : GrowK (r.beyond c) r w s w' := {
    le := fun y v e => by
      by_cases hy : y = ⟨b, o, none⟩
      · subst hy
        rw [hr0] at e; cases e
        exact ⟨_, hs1, .inr ⟨hbey, hsk⟩⟩
      · exact ⟨v, by rw [hs2 y hy]; exact e, .inl rfl⟩
    ok := fun y v e => by
      by_cases hy : y = ⟨b, o, none⟩
      · subst hy
        rw [hs1] at e; cases e
        show gc w'.heap[b]? ⟨b, o, none⟩ = _
        rw [hbw, hover]
        simp [gc, hlo]
      · rw [hs2 y hy] at e
        have hy' := H.ok y v e
        by_cases hyb : y.block = b
        · rw [hyb, hb] at hy'
          rw [hyb, hbw, hover]
          unfold gc at hy' ⊢
          cases hsp : y.spot with
          | some q => rw [hsp] at hy'; cases hy'
          | none =>
            rw [hsp] at hy'
            simp only at hy' ⊢
            have hne : o ≠ y.off := fun e' => hy (by cases y; simp_all)
            simp only [List.getElem?_toArray, List.getElem?_set_ne hne]
            simpa using hy'
        · rw [hother _ hyb]; exact hy'
    fresh := fun y v e => by
      by_cases hy : y = ⟨b, o, none⟩
      · subst hy
        exact .inr ⟨.inl ⟨_, hbey, rfl⟩, fun cs ty fr e' => by rw [hbw] at e'; cases e'; rfl⟩
      · rw [hs2 y hy] at e
        by_cases hk : r.beyond c y
        · refine .inr ⟨.inl ⟨y, hk, rfl⟩, ?_⟩
          by_cases hyb : y.block = b
          · rw [hyb]; exact fun cs ty fr e' => by rw [hbw] at e'; cases e'; rfl
          · exact (H.beyond_unf hE hk).same (hother _ hyb)
        · exact .inl ⟨⟨v, e⟩, hk⟩
    size := by rw [← hw', World.putObj_size]; exact Nat.le_refl _
    block := fun k _ hk => hother k fun e => hk _ hbey e.symm
    unf := fun k _ hu' => by
      by_cases hkb : k = b
      · rw [hkb]; exact fun cs ty fr e' => by rw [hbw] at e'; cases e'; rfl
      · exact hu'.same (hother k hkb)
    os := by rw [← hw']; rfl
    tape := by rw [← hw']; rfl
    output := by rw [← hw']; rfl }
  have hcs : c.le s := fun y v e => by rw [hs2 y (fun e' => by subst e'; rw [hcn] at e; cases e)]; exact hcr _ _ e
  refine wpListIn_unit rfl (by simp) (fun _ => trivial) hrun (h _ _ ⟨by rw [size_put]; exact h1, Marks.turn H gx h2, s, ?_⟩)
  refine H.turn (g' := ⟨J, O, [], [], [], [c]⟩) hc hE gx hO rfl rfl rfl rfl ?_
  intro s' b' u' e
  obtain ⟨rfl, u'', hu'', hk'⟩ := hJ.use e
  exact ⟨fun _ => hk' r s _ hcr hcs gx.le ((H.slots s' true u'' hu'').1 rfl), fun h => by cases h⟩

/-- An own slice. -/
abbrev A.os (b n cap : Nat) : A := A.val (.slice (some ⟨b, 0, none⟩) n cap)

/-- make([]T, n): owned. -/
def TEZ (P : Program) (t e k bytes : Nat) (zs : List Value) : Prop := P.underlying t = some (.slice e) ∧ (P.info? e).bind (fun i => i.zero.map fun z => (i.size, i.bytes, z.cells.toList)) = some (k, bytes, zs)
theorem TEZ.te {P : Program} {t e k bytes : Nat} {zs : List Value} (h : TEZ P t e k bytes zs) (hk : zs.length = k) : TE P t e k bytes := by
  obtain ⟨h1, h2⟩ := h
  cases hi : P.info? e with
  | none => simp [hi] at h2
  | some i =>
    cases hz : i.zero with
    | none => simp [hi, hz] at h2
    | some z =>
      simp [hi, hz] at h2
      obtain ⟨h3, h4, h5⟩ := h2
      exact ⟨h1, i, z, hi, hz, h3, h4, by rw [← h5] at hk; simpa using hk⟩
theorem zeros_get {zs : List Value} : ∀ (n i : Nat), (List.replicate n zs).flatten[i]? = if i < n * zs.length then zs[i % zs.length]? else none
  | 0, i => by simp
  | n + 1, i => by
    rw [List.replicate_succ, List.flatten_cons]
    by_cases h : i < zs.length
    · rw [List.getElem?_append_left h, Nat.mod_eq_of_lt h, if_pos (by rw [Nat.add_mul, Nat.one_mul]; omega)]
    · rw [List.getElem?_append_right (by omega), zeros_get n]
      have : (i - zs.length) % zs.length = i % zs.length := by rw [← Nat.mod_eq_sub_mod (by omega)]
      rw [this, Nat.add_mul, Nat.one_mul]
      by_cases q : i - zs.length < n * zs.length
      · rw [if_pos q, if_pos (by omega)]
      · rw [if_neg q, if_neg (by omega)]
theorem zeros_all2 {r : Rho} {zs : List Value} (n : Nat) : All2 r (List.replicate n (zs.map A.val)).flatten (List.replicate n zs).flatten := by
  induction n with
  | zero => trivial
  | succ n ih =>
    rw [List.replicate_succ, List.replicate_succ, List.flatten_cons, List.flatten_cons]
    exact (All2.vals zs).append ih
theorem madeCells_zeros {z : Array Value} {zs : List Value} (n : Nat) (h : z.toList = zs) : (madeCells z (n * zs.length)).toList = (List.replicate n zs).flatten := by
  apply List.ext_getElem?
  intro i
  rw [zeros_get]
  subst h
  unfold madeCells
  simp only [Array.toList_map, Array.toList_range, List.getElem?_map, Array.length_toList]
  by_cases q : i < n * z.size
  · rw [if_pos q, List.getElem?_range q]
    have hz : 0 < z.size := by
      rcases Nat.eq_zero_or_pos z.size with e | e
      · rw [e] at q; simp at q
      · exact e
    have hm := Nat.mod_lt i hz
    simp [hm]
  · rw [if_neg q, List.getElem?_eq_none (by simpa using q)]; rfl

theorem WL_make {d T : Nat} {ln cp : Operand} {ty : TypeId} {pos : String} {aft : Array Edge} {e k bytes : Nat} {zs : List Value} {n : Int} (hT : TEZ E.P T e k bytes zs) (hk : zs.length = k)
    (hr : Reads g.sl true [(true, ln, A.int n), (true, cp, A.int n)]) (h0 : 0 ≤ n) (hb : bytes * n ≤ 281474976710656) (h63 : n ≤ 9223372036854775807) (hd : Nat.ble (d + 1) E.n = true)
    (h : ∀ b, WL E ops rest { g with sl := (d, true, A.os b n.toNat n.toNat) :: g.sl, own := (b, e, (List.replicate n.toNat (zs.map A.val)).flatten) :: g.own } Q) :
    WL E ops (⟨some d, .makeSlice T ln cp, ty, pos, aft, none⟩ :: rest) g Q := by
  intro a w ⟨h1, h2, r, H⟩
  have hu := hr.use rfl H.slots
  have hln : a.eval ln = .int .i64 n := hu (true, ln, A.int n) (by simp) rfl
  have hcp : a.eval cp = .int .i64 n := hu (true, cp, A.int n) (by simp) rfl
  obtain ⟨ht, h3⟩ := hT
  cases hi : E.P.info? e with
  | none => simp [hi] at h3
  | some i =>
    cases hz : i.zero with
    | none => simp [hi, hz] at h3
    | some z =>
      simp [hi, hz] at h3
      obtain ⟨h4, h5, h6⟩ := h3
      have hm := run_make (P := E.P) w T e i z ht hi hz .i64 .i64 n n h0 (Int.le_refl _) (by rw [h5]; exact hb) h63
      have hzs : (madeCells z.cells (n.toNat * i.size)).toList = (List.replicate n.toNat zs).flatten := by
        rw [h4, ← hk]; exact madeCells_zeros n.toNat h6
      have hrun : (execOp a.eval ⟨some d, .makeSlice T ln cp, ty, pos, aft, none⟩).run E.P w = .ok (.value (.slice (some ⟨w.heap.size, 0, none⟩) n.toNat n.toNat)) (w.alloc (.cells (madeCells z.cells (n.toNat * i.size)) e)) := by
        simp [execOp, hln, hcp, hm]
      refine wpListIn_value rfl (by simp) (fun _ => trivial) hrun (h w.heap.size _ _ ⟨by rw [size_put]; exact h1, ?_, r, ?_⟩)
      · rw [defers_put]
        exact h2.grow H (Grow.same H.ok ((Below.refl _ _).alloc (Nat.le_refl _) _))
      · have hlt : d < a.tmps.size := by rw [h1]; exact Nat.le_of_ble_eq_true hd
        have H' := H.allocOwn (madeCells z.cells (n.toNat * i.size)) e (cells := (List.replicate n.toNat (zs.map A.val)).flatten) (by rw [hzs]; exact zeros_all2 _)
        exact { H' with slots := Slots.put H'.slots hlt (fun _ => rfl) (fun hc => by cases hc) }

/-- x = append(x, y...) where x is an own slice. -/
theorem WL_appendo (i : Nat) {d t ty : Nat} {x y : Operand} {pos : String} {aft : Array Edge} {b n cap e k bytes : Nat} {cells : List A} {S : Type} {f2 : S → List A} {M : List S}
    (hT : TE E.P t e k bytes) (hr : Reads g.sl true [(true, x, A.os b n cap), (true, y, A.sl k f2 M)]) (hi : g.own[i]? = some (b, e, cells)) (hcl : cells.length = cap * k) (hnc : n ≤ cap) (hcm : cap ≤ maxLen) (hk0 : 0 < k)
    (hk2 : ∀ y, (f2 y).length = k) (hOne : ∀ y, AllOne (f2 y)) (hb : (n + M.length) * bytes ≤ 140737488355328) (h63 : n + M.length ≤ maxLen) (hd : Nat.ble (d + 1) E.n = true)
    (h : ∀ b' cap' spare, spare.length = (cap' - (n + M.length)) * k → n + M.length ≤ cap' → cap' ≤ maxLen →
      WL E ops rest { g with sl := (d, true, A.os b' (n + M.length) cap') :: g.sl, own := g.own.set i (b', e, cells.take (n * k) ++ M.flatMap f2 ++ spare) } Q) :
    WL E ops (⟨some d, .call { callee := .builtin .append, args := #[x, y], argTypes := #[t, t] }, ty, pos, aft, none⟩ :: rest) g Q := by
  intro a w ⟨h1, h2, r, H⟩
  have hu := hr.use rfl H.slots
  have hxv : a.eval x = .slice (some ⟨b, 0, none⟩) n cap := hu (true, x, A.os b n cap) (by simp) rfl
  have hys : (A.sl k f2 M).p r (a.eval y) := hu (true, y, A.sl k f2 M) (by simp) rfl
  have hmem := List.mem_of_getElem? hi
  obtain ⟨hno, vs, hbl, hv⟩ := H.own _ hmem
  have hvl := hv.length
  have hcs : vs.size = cap * k := by simp at hvl; omega
  obtain ⟨ya, m, c, news, hye, hm, hmc, hcm', hnv, hnl, hnr⟩ := sl_vals hys hk2
  have hnOne : ∀ u ∈ news, u.oneCell' = true := flat_one hOne hnv
  have hnews : m = 0 ∨ ∃ a, ya = some a ∧ ∀ (j : Nat) u, news[j]? = some u → w.cell? (a.add j) = some u := by
    rcases hnr with rfl | ⟨b, o, rfl, hq⟩
    · exact .inl (by simpa using hm)
    · exact .inr ⟨_, rfl, cellsAt_news H.ok hq⟩
  have hown : w.ownsRow 0 e k (.slice (some ⟨b, 0, none⟩) n cap) n (vs.toList.take (n * k)) :=
    ⟨by rw [List.length_take, Array.length_toList, hcs, Nat.min_eq_left (Nat.mul_le_mul_right _ hnc)], .inr ⟨b, cap, vs, rfl, Nat.zero_le _, hbl, hnc, hcm, hcs, rfl⟩⟩
  obtain ⟨v', w', hrun, hap⟩ := append_run (ty := ty) (c := c) hT hk0 hown hnl hnews hnOne (by rw [hm]; exact hb) (by rw [hm]; exact h63)
  have hexec : (execOp a.eval ⟨some d, .call { callee := .builtin .append, args := #[x, y], argTypes := #[t, t] }, ty, pos, aft, none⟩).run E.P w = .ok (.value v') w' := by
    simp only [execOp, resolve, Sem.run_bind, Sem.run_pure, Result.andThen_ok, invoke, builtin]
    simp only [List.map_toArray, List.map_cons, List.map_nil, hxv, hye, hrun, Result.andThen_ok]
  have hlt : d < a.tmps.size := by rw [h1]; exact Nat.le_of_ble_eq_true hd
  have hfl : (M.flatMap f2).length = m * k := by rw [hm]; exact flat_length (fun y _ => hk2 y)
  have hil : i < g.own.length := (List.getElem?_eq_some_iff.1 hi).1
  cases hap with
  | nothing hm0 =>
    have hMe : M = [] := List.eq_nil_of_length_eq_zero (by omega)
    subst hMe
    refine wpListIn_value rfl (by simp) (fun _ => trivial) hexec (h b cap (cells.drop (n * k)) (by simp [hcl, Nat.sub_mul]) (by simpa using hnc) hcm _ _ ⟨by rw [size_put]; exact h1, by rw [defers_put]; exact h2, r, ?_⟩)
    have e1 : cells.take (n * k) ++ ([] : List S).flatMap f2 ++ cells.drop (n * k) = cells := by simp
    rw [e1, set_same hi]
    exact { H with slots := Slots.put H.slots hlt (fun _ => rfl) (fun hc => by cases hc) }
  | room gb cap' cur hvv hg hfit =>
    cases hvv
    rw [hbl] at hg; cases hg
    have hle : n * k + (M.flatMap f2).length ≤ cells.length := by
      rw [hfl, hcl, ← Nat.add_mul]; exact Nat.mul_le_mul_right _ hfit
    have H' := H.putOwn hi (cs := (over vs.toList (n * k) news).toArray) (cells' := over cells (n * k) (M.flatMap f2)) (by simpa using hv.over hnv hle)
    have hwl : WL E ops rest { g with sl := (d, true, A.os b (n + M.length) cap) :: g.sl, own := g.own.set i (b, e, cells.take (n * k) ++ M.flatMap f2 ++ cells.drop (n * k + (M.flatMap f2).length)) } Q :=
      h b cap _ (by rw [List.length_drop, hcl, hfl, ← hm, ← Nat.add_mul, ← Nat.sub_mul]) (by omega) hcm
    refine wpListIn_value rfl (by simp) (fun _ => trivial) hexec (hwl _ _ ⟨by rw [size_put]; exact h1, by rw [defers_put]; exact h2.putOwn (fun ds e => by rw [hbl] at e; cases e), r, ?_⟩)
    exact { H' with slots := Slots.put H'.slots hlt (fun _ => by rw [hm]; rfl) (fun hc => by cases hc) }
  | grow cap' rest' hg1 hg2 hg3 =>
    have gr : Grow r w r w.drew := Grow.same H.ok ((Below.refl _ _).drew)
    have H1 := H.grow gr (a' := a) H.slots
    have hall : All2 r (cells.take (n * k) ++ M.flatMap f2 ++ List.replicate rest'.size A.any) (vs.toList.take (n * k) ++ news ++ rest'.toList) := by
      have ht : All2 r (cells.take (n * k)) (vs.toList.take (n * k)) := by
        have e1 : cells = cells.take (n * k) ++ cells.drop (n * k) := (List.take_append_drop _ cells).symm
        rw [e1] at hv
        have := hv.split.1
        rwa [List.length_take, Nat.min_eq_left (by rw [hcl]; exact Nat.mul_le_mul_right _ hnc)] at this
      exact (ht.append hnv).append (by simpa using All2.anys (r := r) rest'.toList)
    have H2 := H1.allocOwn ((vs.toList.take (n * k)).toArray ++ news.toArray ++ rest') e (cells := cells.take (n * k) ++ M.flatMap f2 ++ List.replicate rest'.size A.any) (by simpa using hall)
    have hnew : w.heap.size ∉ g.own.map (·.1) := fun hm' => by
      obtain ⟨y, hy, e'⟩ := List.mem_map.1 hm'
      have := (H.own y hy).lt
      have e'' : y.1 = w.heap.size := e'
      omega
    have H3 := H2.reown (own' := g.own.set i (w.heap.size, e, cells.take (n * k) ++ M.flatMap f2 ++ List.replicate rest'.size A.any)) (fun x hx => by
        rcases List.mem_or_eq_of_mem_set hx with q | q
        · exact List.mem_cons_of_mem _ q
        · subst q; exact List.mem_cons_self ..) (by
        rw [List.map_set]
        have hno' := H.nodup
        have : ∀ (l : List Nat) (j : Nat) (x : Nat), l.Nodup → x ∉ l → (l.set j x).Nodup := by
          intro l
          induction l with
          | nil => intro j x _ _; simp
          | cons y l ih =>
            intro j x hn hx
            rw [List.nodup_cons] at hn
            rw [List.mem_cons, not_or] at hx
            cases j with
            | zero => rw [List.set_cons_zero, List.nodup_cons]; exact ⟨hx.2, hn.2⟩
            | succ j =>
              rw [List.set_cons_succ, List.nodup_cons]
              refine ⟨fun hm' => ?_, ih j x hn.2 hx.2⟩
              rcases List.mem_or_eq_of_mem_set hm' with q | q
              · exact hn.1 q
              · exact hx.1 q.symm
        exact this _ _ _ hno' hnew)
    have hwl : WL E ops rest { g with sl := (d, true, A.os w.heap.size (n + M.length) cap') :: g.sl, own := g.own.set i (w.heap.size, e, cells.take (n * k) ++ M.flatMap f2 ++ List.replicate rest'.size A.any) } Q :=
      h w.heap.size cap' _ (by simp [hg3, hm]) (by omega) hg2
    refine wpListIn_value rfl (by simp) (fun _ => trivial) hexec (hwl _ _ ⟨by rw [size_put]; exact h1, ?_, r, ?_⟩)
    · rw [defers_put]
      exact (h2.grow H gr).grow H1 (Grow.same H1.ok ((Below.refl _ _).alloc (Nat.le_refl _) _))
    · exact { H3 with slots := Slots.put H3.slots hlt (fun _ => by rw [hm]; rfl) (fun hc => by cases hc) }

/-- Known still of an earlier ghost heap. -/
def Dn (c : Rho) (u t : A) : Prop := ∀ r v, c.le r → u.p r v → t.p c v
theorem Dn.at_ {c : Rho} {u : A} : Dn c (A.at_ c u) u := fun _ _ _ k => k.2
theorem Dn.pure {c : Rho} {u : A} (h : Pure u) : Dn c u u := fun _ _ _ k => h _ _ _ k
theorem Dn.val {c : Rho} {v : Value} : Dn c (A.val v) (A.val v) := fun _ _ _ k => k
def FactsD (c : Rho) (av : List (Nat × Bool × A)) : List (Nat × Bool × A) → Prop
  | [] => True
  | (s, b, t) :: l => (b = true ∧ ∃ u, look av s = some (true, u) ∧ Dn c u t) ∧ FactsD c av l
theorem FactsD.use {c : Rho} {av : List (Nat × Bool × A)} {s : Nat} {b : Bool} {t : A} : ∀ {l : List (Nat × Bool × A)}, FactsD c av l → look l s = some (b, t) → b = true ∧ ∃ u, look av s = some (true, u) ∧ Dn c u t
  | (s', c', t') :: l, h, e => by
    unfold look at e
    by_cases q : s' = s
    · subst q; simp at e; obtain ⟨rfl, rfl⟩ := e; exact h.1
    · rw [if_neg (by simpa using q)] at e; exact FactsD.use h.2 e
/-- Owned cells of which what is said is known of any ghost heap. -/
def AllPure : List A → Prop
  | [] => True
  | t :: l => Pure t ∧ AllPure l
theorem AllPure.all2 {r s : Rho} : ∀ {l : List A} {vs : List Value}, AllPure l → All2 r l vs → All2 s l vs
  | [], [], _, _ => trivial
  | _ :: _, _ :: _, h, k => ⟨h.1 _ _ _ k.1, AllPure.all2 h.2 k.2⟩
  | _ :: _, [], _, k => k.elim
  | [], _ :: _, _, k => k.elim
theorem AllPure.append : ∀ {l m : List A}, AllPure l → AllPure m → AllPure (l ++ m)
  | [], _, _, h => h
  | _ :: _, _, h, k => ⟨h.1, AllPure.append h.2 k⟩
theorem AllPure.flatMap {T : Type} {f : T → List A} (h : ∀ y, AllPure (f y)) : ∀ (L : List T), AllPure (L.flatMap f)
  | [] => trivial
  | y :: L => by rw [List.flatMap_cons]; exact (h y).append (AllPure.flatMap h L)
theorem Pure.any : Pure A.any := fun _ _ _ _ => trivial
theorem AllPure.anys : ∀ (n : Nat), AllPure (List.replicate n A.any)
  | 0 => trivial
  | n + 1 => by rw [List.replicate_succ]; exact ⟨Pure.any, AllPure.anys n⟩
theorem AllPure.vals : ∀ (vs : List Value), AllPure (vs.map A.val)
  | [] => trivial
  | _ :: vs => ⟨Pure.val, AllPure.vals vs⟩

/-- The ghost heap as it was: only what is known of it stays. -/
theorem HoldsAt.down {c r : Rho} {a : Act} {w : World} (H : HoldsAt E g r a w) (hc : c ∈ g.cps) (hE : ∀ x v, E.r0 x = some v → c x = r x) {J : List (Nat × Bool × A)} (hJ : FactsD c g.sl J) (hO : ∀ x ∈ g.own, AllPure x.2.2) (hm : g.maps = []) :
    HoldsAt E { g with sl := J, cps := [c] } c a w :=
  have hcr := H.cps c hc
  { le := fun x v e => by
      obtain ⟨v', h1, h2⟩ := H.le x v e
      exact ⟨v', by rw [hE x v e]; exact h1, h2⟩
    cps := fun c' hc' => by rcases List.mem_singleton.1 hc' with rfl; exact Rho.le_refl _
    ok := fun x v e => H.ok x v (hcr _ _ e)
    fresh := fun x v e => H.fresh x v (hcr _ _ e)
    size := H.size, block := H.block, unf := H.unf, os := H.os, tape := H.tape, output := H.output
    slots := fun s b t e => by
      obtain ⟨rfl, u, hu, hk⟩ := hJ.use e
      exact ⟨fun _ => hk r _ hcr ((H.slots s true u hu).1 rfl), fun h => by cases h⟩
    own := fun x hx => by
      obtain ⟨h1, vs, h2, h3⟩ := H.own x hx
      refine ⟨fun o s => ?_, vs, h2, (hO x hx).all2 h3⟩
      cases e : c ⟨x.1, o, s⟩ with
      | none => rfl
      | some v => have := hcr _ _ e; rw [h1] at this; cases this
    ownB := H.ownB
    nodup := H.nodup
    room := fun x hx => by
      have := H.room x hx
      unfold RoomOk at this ⊢
      split at this
      · exact this
      · obtain ⟨h1, h2, h3, h4, h5, h7⟩ := this
        refine ⟨h1, h2, h3, h4, h5, fun o s ho => ?_⟩
        cases e : c _ with
        | none => rfl
        | some v => have := hcr _ _ e; rw [h7 o s ho] at this; cases this
      · exact this
    roomB := H.roomB
    roomN := H.roomN
    mp := by
      refine ⟨?_, ?_, ?_, H.mp.nodup, H.mp.obj, H.mp.objN⟩ <;> (rw [hm]; exact fun _ h => (by cases h)) }

/-- A slice that has been appended to becomes an owned one. -/
theorem WL_roomOwn {l : List Oper} (c : Rho) (i s : Nat) {v : Value} {e k : Nat} {T : Type} {f : T → List A} {L : List T} (J : List (Nat × Bool × A)) (hc : c ∈ g.cps) (hE : ∀ x v, E.r0 x = some v → ∀ r : Rho, c.le r → c x = r x)
    (hcl : ∀ x v, c x = some v → x.block < E.w0.heap.size) (hX : ∀ b, E.X b → b ∈ g.own.map (·.1)) (hs : look g.sl s = some (true, A.slv v k f L)) (hi : g.rooms[i]? = some (v, e, k)) (hk : ∀ y, (f y).length = k)
    (hp : ∀ y, AllPure (f y)) (hJ : FactsD c g.sl J) (hO : ∀ x ∈ g.own, AllPure x.2.2) (hm : g.maps = [])
    (h0 : v = .slice none 0 0 → L = [] → WL E ops l { g with sl := (s, true, A.val (.slice none 0 0)) :: J, rooms := g.rooms.eraseIdx i, cps := [c] } Q)
    (h1 : ∀ b cap spare, v = .slice (some ⟨b, 0, none⟩) L.length cap → L.length ≤ cap → cap ≤ maxLen → (L.flatMap f ++ List.replicate spare A.any).length = cap * k →
      WL E ops l { g with sl := (s, true, A.os b L.length cap) :: J, own := (b, e, L.flatMap f ++ List.replicate spare A.any) :: g.own, rooms := g.rooms.eraseIdx i, cps := [c] } Q) : WL E ops l g Q := by
  intro a w ⟨q1, q2, r, H⟩
  obtain ⟨hv, hsl⟩ := (H.slots s true _ hs).1 rfl
  have hv : a.tmps.getD s undef = v := hv
  rw [hv] at hsl
  have hmem := List.mem_of_getElem? hi
  have hroom := H.room _ hmem
  have hcr := H.cps c hc
  have H1 := H.down hc (fun x v e => hE x v e r hcr) hJ hO hm
  have hrooms : ∀ x ∈ g.rooms.eraseIdx i, x ∈ g.rooms := fun x hx => List.mem_of_mem_eraseIdx hx
  have hslots : ∀ t : A, t.p c v → Slots c a ((s, true, t) :: J) := fun t ht s' b u e' => by
    unfold look at e'
    by_cases q : s = s'
    · subst q; simp at e'; obtain ⟨rfl, rfl⟩ := e'
      exact ⟨fun _ => hv ▸ ht, fun h => by cases h⟩
    · rw [if_neg (by simpa using q)] at e'; exact H1.slots s' b u e'
  have hnodup : ((g.rooms.eraseIdx i).filterMap fun x => roomBlock x.1).Nodup := H.roomN.sublist ((List.eraseIdx_sublist g.rooms i).filterMap _)
  unfold RoomOk at hroom
  split at hroom
  · rename_i n' c' e'
    simp only at e'
    obtain ⟨rfl, rfl⟩ := hroom
    subst e'
    obtain ⟨_, _, _, q3, q4, _⟩ := hsl
    cases q3
    have hL : L = [] := List.eq_nil_of_length_eq_zero q4.symm
    refine h0 rfl hL a w ⟨q1, q2, c, ?_⟩
    exact { H1 with slots := hslots _ rfl, room := fun x hx => H1.room x (hrooms x hx), roomB := fun x hx => H1.roomB x (hrooms x hx), roomN := hnodup }
  · rename_i ad n' c' e'
    simp only at e' hroom
    obtain ⟨k1, k2, k3, k4, ⟨vs, k5, k6⟩, k7⟩ := hroom
    obtain ⟨b, o, sp⟩ := ad
    simp only at k1 k2 k5 k7
    subst k1; subst k2; subst e'
    obtain ⟨ya, m, cc, vals, hve, hm', hmc, hcm, hall, hvl, hrr⟩ := sl_vals hsl hk
    cases hve
    have hbase := (H.roomB _ hmem b rfl)
    have hge : E.w0.heap.size ≤ b := hbase.1.resolve_left fun hx => hbase.2 (hX b hx)
    have hcn : ∀ o s, c ⟨b, o, s⟩ = none := fun o s => by
      cases e'' : c ⟨b, o, s⟩ with
      | none => rfl
      | some u => exact absurd (hcl _ _ e'') (by simp; omega)
    have hflat := AllPure.flatMap hp L
    have hlen : (L.flatMap f).length = L.length * k := flat_length (fun y _ => hk y)
    have htake : vs.toList.take (n' * k) = vals := by
      apply List.ext_getElem?
      intro j
      rw [List.getElem?_take]
      by_cases hj : j < n' * k
      · rw [if_pos hj]
        rcases hrr with hL | ⟨b', o', hao, hq⟩
        · subst hL; simp at hm'; subst hm'; simp at hj
        · cases hao
          have hj' : vals[j]? = some (vals[j]'(by omega)) := List.getElem?_eq_getElem _
          have := H.ok.cell (hq j _ hj')
          rw [hj']
          rw [Nat.zero_add] at this
          simpa [World.cell?, k5] using this
      · rw [if_neg hj, List.getElem?_eq_none (by omega)]
    have hcells : All2 c (L.flatMap f ++ List.replicate (vs.size - n' * k) A.any) vs.toList := by
      rw [← List.take_append_drop (n' * k) vs.toList, htake]
      refine (hflat.all2 hall).append ?_
      have := All2.anys (r := c) (vs.toList.drop (n' * k))
      simpa using this
    have hlen2 : (L.flatMap f ++ List.replicate (vs.size - n' * k) A.any).length = c' * k := by
      rw [List.length_append, List.length_replicate, hlen, k6, ← hm', ← Nat.sub_mul, ← Nat.add_mul]
      congr 1; omega
    have hwl := h1 b c' (vs.size - n' * k) (by rw [hm']) (by omega) k4 hlen2
    refine hwl a w ⟨q1, q2, c, ?_⟩
    exact { H1 with
      slots := hslots _ (by rw [hm']; rfl)
      own := fun x hx => by
        rcases List.mem_cons.1 hx with rfl | hx
        · exact ⟨hcn, vs, k5, hcells⟩
        · exact H1.own x hx
      ownB := fun x hx => by
        rcases List.mem_cons.1 hx with rfl | hx
        · exact hbase.1
        · exact H1.ownB x hx
      nodup := by
        rw [List.map_cons, List.nodup_cons]
        exact ⟨hbase.2, H.nodup⟩
      room := fun x hx => H1.room x (hrooms x hx)
      roomB := fun x hx b' hb' => by
        refine ⟨(H1.roomB x (hrooms x hx) b' hb').1, fun hmm => ?_⟩
        rw [List.map_cons, List.mem_cons] at hmm
        rcases hmm with rfl | hmm
        · obtain ⟨j, hj, ej⟩ := List.mem_eraseIdx_iff_getElem?.1 hx
          exact hj (nodup_filterMap_get (f := fun x : Value × Nat × Nat => roomBlock x.1) H.roomN ej hi hb' rfl)
        · exact (H1.roomB x (hrooms x hx) b' hb').2 hmm
      roomN := hnodup }
  · exact hroom.elim
end
end Go.L
/-! Short forms of the rules; operations on owned slices and on what was handed over. -/
namespace Go.L
open Go Go.RowKit

theorem T1 {av : List (Nat × Bool × A)} {c b : Bool} {s : Nat} {x : A} (h : look av s = some (true, x)) : Read1 av c (b, .tmp s, x) := ⟨true, h, fun _ _ => rfl⟩
theorem C1 {av : List (Nat × Bool × A)} {c b : Bool} {v : Value} : Read1 av c (b, .const v, A.val v) := fun _ _ => rfl
theorem F1 {av : List (Nat × Bool × A)} {c b : Bool} {f : FuncId} : Read1 av c (b, .func f, A.val (.func (.func f) #[] #[])) := fun _ _ => rfl

section
variable {E : Env} {g : Ctx} {Q : Exit → Act → World → Prop} {ops : Array Oper} {rest : List Oper} {d s : Nat} {ty : TypeId} {pos : String} {aft : Array Edge} {t : A}
theorem WL_mv (hl : look g.sl s = some (true, t)) (hd : Nat.ble (d + 1) E.n = true) (h : WL E ops rest { g with sl := (d, true, t) :: g.sl } Q) : WL E ops (⟨some d, .move (.tmp s), ty, pos, aft, none⟩ :: rest) g Q :=
  WL_step (S_plain O_move ⟨T1 hl, trivial⟩ (by simp [slotIn, Op.operands]) hd) h
theorem WL_as (hl : look g.sl s = some (true, t)) (hd : Nat.ble (d + 1) E.n = true) (h : WL E ops rest { g with sl := (d, true, t) :: g.sl } Q) : WL E ops (⟨some d, .assign (.tmp s), ty, pos, aft, none⟩ :: rest) g Q :=
  WL_step (S_plain O_assign ⟨T1 hl, trivial⟩ (by simp [slotIn, Op.operands]) hd) h
theorem WL_mc {v : Value} (hd : Nat.ble (d + 1) E.n = true) (h : WL E ops rest { g with sl := (d, true, A.val v) :: g.sl } Q) : WL E ops (⟨some d, .move (.const v), ty, pos, aft, none⟩ :: rest) g Q :=
  WL_step (S_plain O_movec trivial rfl hd) h
theorem WL_ac {v : Value} (hd : Nat.ble (d + 1) E.n = true) (h : WL E ops rest { g with sl := (d, true, A.val v) :: g.sl } Q) : WL E ops (⟨some d, .assign (.const v), ty, pos, aft, none⟩ :: rest) g Q :=
  WL_step (S_plain O_assignc trivial rfl hd) h
theorem WL_u1 {op : Op} {x : Operand} {u : A} (ho : OpN E.P g.oc [(true, x, u)] op ty t) (hr : Read1 g.sl true (true, x, u)) (hs : slotIn x op.operands.toList = true) (hd : Nat.ble (d + 1) E.n = true) (h : WL E ops rest { g with sl := (d, true, t) :: g.sl } Q) :
    WL E ops (⟨some d, op, ty, pos, aft, none⟩ :: rest) g Q := WL_step (S_plain ho ⟨hr, trivial⟩ (by simp [hs]) hd) h
theorem WL_u2 {op : Op} {x y : Operand} {u v : A} (ho : OpN E.P g.oc [(true, x, u), (true, y, v)] op ty t) (hr : Read1 g.sl true (true, x, u)) (hr2 : Read1 g.sl true (true, y, v)) (hs : slotIn x op.operands.toList = true) (hs2 : slotIn y op.operands.toList = true) (hd : Nat.ble (d + 1) E.n = true)
    (h : WL E ops rest { g with sl := (d, true, t) :: g.sl } Q) :
    WL E ops (⟨some d, op, ty, pos, aft, none⟩ :: rest) g Q := WL_step (S_plain ho ⟨hr, hr2, trivial⟩ (by simp [hs, hs2]) hd) h

/-- The length of a slice, and that it is one. -/
theorem WL_len {T e k : Nat} {S : Type} {f : S → List A} {L : List S} (hT : TS E.P T e k) (hl : look g.sl s = some (true, A.sl k f L)) (hd : Nat.ble (d + 1) E.n = true)
    (h : L.length ≤ 9223372036854775807 → WL E ops rest { g with sl := (d, true, A.int L.length) :: g.sl } Q) :
    WL E ops (⟨some d, .call { callee := .builtin .len, args := #[.tmp s], argTypes := #[T] }, ty, pos, aft, none⟩ :: rest) g Q := by
  intro a w k
  obtain ⟨h1, h2, r, H⟩ := id k
  obtain ⟨p, len, cap, _, h3, h4, h5, _⟩ := (H.slots s true _ hl).1 rfl
  exact WL_step (S_plain (O_len hT) ⟨T1 hl, trivial⟩ (by simp [slotIn, Op.operands, Call.operands]) hd) (h (by simp only [maxLen] at h5; omega)) a w k

/-- A cut: what holds where ways meet. -/
theorem W_cut {c c2 : Code} {T : Type} (ks io ir im : List Nat) (q : T → Prop) (J : T → List (Nat × Bool × A)) (M : T → Mem)
    (h1 : W E c g (Exit.then (fun a w => ∃ x, q x ∧ Holds E ⟨J x ++ keep g.sl ks, (M x).own ++ others io g.own, (M x).rooms ++ others ir g.rooms, (M x).maps ++ others im g.maps, g.objs, g.cps⟩ a w) Q))
    (h2 : ∀ x, q x → W E c2 ⟨J x ++ keep g.sl ks, (M x).own ++ others io g.own, (M x).rooms ++ others ir g.rooms, (M x).maps ++ others im g.maps, g.objs, g.cps⟩ Q) : W E (.seq c c2) g Q := by
  intro a w k
  refine wpIn_seq (wpIn_mono (h1 a w k) ?_)
  intro e a' w' k'
  cases e with
  | normal => obtain ⟨x, hq, hH⟩ := k'; exact h2 x hq a' w' hH
  | _ => exact k'
theorem Fin_cut {T : Type} {ks : List Nat} {q : T → Prop} {J : T → List (Nat × Bool × A)} {M : T → Mem} {ow : Own} {rm : List (Value × Nat × Nat)} {mp : List (Nat × List (Value × A))} {g' : Ctx} {N : Exit → Act → World → Prop} (io : List Nat) (x' : T) (hq : q x') (h : Facts g'.sl (J x'))
    (hk : Kept g.sl g'.sl ks) (ho : OSub ((M x').own ++ ow) (picks io g'.own)) (hi : decide io.Nodup = true) (hr : ((M x').rooms ++ rm).Sublist g'.rooms) (hmm : (M x').maps ++ mp = g'.maps) (hob : g.objs = g'.objs := by rfl) (hc : g.cps = g'.cps := by rfl) :
    Fin E g' .normal (Exit.then (fun a w => ∃ x', q x' ∧ Holds E ⟨J x' ++ keep g.sl ks, (M x').own ++ ow, (M x').rooms ++ rm, (M x').maps ++ mp, g.objs, g.cps⟩ a w) N) := by
  intro a w ⟨h1, h2, r, H⟩
  have hmem := (MemOk.picks H io [] [] (m := ⟨picks io g'.own, [], []⟩) (of_decide_eq_true hi) List.nodup_nil List.nodup_nil OSub.refl rfl rfl)
  have H1 : HoldsAt E { g' with own := picks io g'.own } r a w := H.reown (fun x hx => mem_picks hx) hmem.nodO
  exact ⟨x', hq, Holds.less ⟨h1, h2, r, H1⟩ (Facts.append h (Facts.keep hk)) ho hr hmm hob (fun c h => hc ▸ h)⟩
end

section
variable {P : Program} {own : OC} {ty : TypeId} {x i : Operand} {T e k off : Nat} {c : Rho}
/-- The place of an element of an own slice. -/
theorem O_indexo {b n cap : Nat} {m : Int} (h : TS P T e k) (hb : 0 ≤ m ∧ m < n) :
    OpN P own [(true, x, A.os b n cap), (true, i, A.int m)] (.indexAddr T x i) ty (A.val (.pointer (some ⟨b, m.toNat * k, none⟩))) := fun r w a hok _ hn => by
  have hx : a.eval x = .slice (some ⟨b, 0, none⟩) n cap := hn (true, x, A.os b n cap) (by simp) rfl
  have hi : a.eval i = .int .i64 m := hn (true, i, A.int m) (by simp) rfl
  simp only [exec, execOp, hx, hi, Sem.run_bind, run_indexAt h hb.1 hb.2, Result.andThen_ok, Sem.run_pure]
  exact Good.here hok (by rw [Nat.zero_add]; rfl)
theorem O_lenv {p : Option Addr} {n cap : Nat} (h : TS P T e k) : OpN P own [(true, x, A.val (.slice p n cap))] (.call { callee := .builtin .len, args := #[x], argTypes := #[T] }) ty (A.int n) := fun r w a hok _ hn => by
  have hx : a.eval x = .slice p n cap := hn (true, x, A.val (.slice p n cap)) (List.mem_singleton.2 rfl) rfl
  simp only [exec, execOp, resolve, Sem.run_bind, Sem.run_pure, Result.andThen_ok, invoke, builtin]
  simp only [List.map_toArray, List.map_cons, List.map_nil, hx, run_len_sl h, Result.andThen_ok]
  exact Good.here hok rfl

/-- What is handed over: places of elements, of fields, headers. -/
theorem O_indexn {S : Type} [Inhabited S] {f : S → List A} {L : List S} {n : Int} (h : TS P T e k) (hb : 0 ≤ n ∧ n < L.length) :
    OpN P own [(true, x, A.nw c (A.sl k f L)), (true, i, A.int n)] (.indexAddr T x i) ty (A.nw c (A.pt (f (idx L n)))) := fun r w a hok _ hn => by
  obtain ⟨hcr, p, len, cap, hx, h1, h2, h3, h4⟩ := hn (true, x, A.nw c (A.sl k f L)) (by simp) rfl
  have hx : a.eval x = .slice p len cap := hx
  have hi : a.eval i = .int .i64 n := hn (true, i, A.int n) (by simp) rfl
  subst h1
  obtain ⟨b, o, rfl, hc⟩ := h4 (fun e => by rw [e] at hb; simp at hb; omega)
  simp only [exec, execOp, hx, hi, Sem.run_bind, run_indexAt h hb.1 hb.2, Result.andThen_ok, Sem.run_pure]
  exact Good.here hok ⟨hcr, b, _, rfl, hc n.toNat _ (idx_get hb.1 hb.2)⟩
theorem O_fieldn {j : Nat} {cells : List A} (h : TF P T j off) : OpN P own [(true, x, A.nw c (A.pt cells))] (.fieldAddr T x j) ty (A.nw c (A.pt (cells.drop off))) := fun r w a hok _ hn => by
  obtain ⟨hcr, b, o, hx, hc⟩ := hn (true, x, A.nw c (A.pt cells)) (by simp) rfl
  have hx : a.eval x = .pointer (some ⟨b, o, none⟩) := hx
  simp only [exec, execOp, hx, Sem.run_bind, run_fieldAt h, Result.andThen_ok, Sem.run_pure]
  refine Good.here hok ⟨hcr, b, o + off, rfl, fun i c hi => ?_⟩
  have := hc (off + i) c (by simpa using hi)
  rwa [Nat.add_assoc]
theorem O_loadn {u : A} {cells : List A} (h : TA P T) : OpN P own [(true, x, A.nw c (A.pt (u :: cells)))] (.load T x) ty (A.nw c u) := fun r w a hok _ hn => by
  obtain ⟨hcr, b, o, hx, hc⟩ := hn (true, x, A.nw c (A.pt (u :: cells))) (by simp) rfl
  have hx : a.eval x = .pointer (some ⟨b, o, none⟩) := hx
  obtain ⟨v, hv, hp⟩ := hc 0 u (by simp)
  rw [Nat.add_zero] at hv
  simp only [exec, execOp, hx, Sem.run_bind, run_loadAt_atom h (hok.cell (Rho.minus_le _ _ _ _ hv)), Result.andThen_ok, Sem.run_pure]
  exact Good.here hok ⟨hcr, hp⟩
theorem O_lenn {S : Type} {f : S → List A} {L : List S} (h : TS P T e k) : OpN P own [(true, x, A.nw c (A.sl k f L))] (.call { callee := .builtin .len, args := #[x], argTypes := #[T] }) ty (A.int L.length) := fun r w a hok ho hn => by
  obtain ⟨hcr, hk⟩ := hn (true, x, A.nw c (A.sl k f L)) (by simp) rfl
  refine O_len (own := own) (f := f) (L := L) h r w a hok ho (fun z hz _ => ?_)
  rcases List.mem_singleton.1 hz with rfl
  exact (A.sl k f L).mono (Rho.minus_le _ _) hk

/-- Division and rest. -/
theorem O_remt {y : Operand} {m n : Int} {T2 : TypeId} (hn0 : n ≠ 0) : OpN P own [(true, x, A.int m), (true, y, A.int n)] (.binOp .rem T x y T2) ty (A.int (m.tmod n)) := fun r w a hok _ hn => by
  obtain ⟨hx, hy⟩ := int2 hn
  simp [exec, execOp, hx, hy, eqGuard, binOp, Op.intDiv, hn0]
  exact Good.here hok rfl
theorem O_rem {y : Operand} {m n : Int} {T2 : TypeId} (hm : 0 ≤ m) (hn0 : n ≠ 0) : OpN P own [(true, x, A.int m), (true, y, A.int n)] (.binOp .rem T x y T2) ty (A.int (m % n)) := by
  have := O_remt (P := P) (own := own) (ty := ty) (x := x) (T := T) (y := y) (m := m) (T2 := T2) hn0
  rwa [Int.tmod_eq_emod_of_nonneg hm] at this
theorem O_quo {y : Operand} {m n : Int} {T2 : TypeId} (hm : 0 ≤ m) (hn0 : 0 < n) (hi : inI m) : OpN P own [(true, x, A.int m), (true, y, A.int n)] (.binOp .quo T x y T2) ty (A.int (m / n)) := fun r w a hok _ hn => by
  obtain ⟨hx, hy⟩ := int2 hn
  have h1 : n ≠ 0 := by omega
  have h2 : m.tdiv n = m / n := Int.tdiv_eq_ediv_of_nonneg hm
  have h3 : inI (m / n) := by
    have h4 := Int.ediv_nonneg hm (show 0 ≤ n by omega)
    have h5 : m / n ≤ m := Int.ediv_le_self _ hm
    unfold inI at *; omega
  simp [exec, execOp, hx, hy, eqGuard, binOp, Op.intDiv, h1, h2, wrap_in h3]
  exact Good.here hok rfl
/-- A byte as a number. -/
theorem O_conv8 {n : Int} {S D : TypeId} (hS : P.underlying S = some (.int .u8)) (hD : P.underlying D = some (.int .i64)) (hi : inI n) : OpN P own [(true, x, A.u8 n)] (.convert S D x) ty (A.int n) := fun r w a hok _ hn => by
  have hx : a.eval x = .int .u8 n := hn (true, x, A.u8 n) (by simp) rfl
  simp [exec, execOp, hx, convert, run_underlying hS, run_underlying hD, Conv.intToInt, wrap_in hi]
  exact Good.here hok rfl
end
end Go.L
/-! Slices of one element, empty ones; less said of slices. -/
namespace Go.L
open Go Go.RowKit

theorem AllImp.cellsAt {r : Rho} {b : Nat} : ∀ {l m : List A} {o : Nat}, AllImp l m → A.CellsAt r b o m → A.CellsAt r b o l
  | [], _, _, _, _ => fun i c h => by simp at h
  | t :: l, u :: m, o, h, k => fun i c hi => by
    cases i with
    | zero =>
      simp at hi; subst hi
      obtain ⟨x, hx, hp⟩ := k 0 u (by simp)
      exact ⟨x, hx, h.1 _ _ hp⟩
    | succ i =>
      have := AllImp.cellsAt (o := o + 1) h.2 (fun j c' hj => by have := k (j + 1) c' (by simpa using hj); rwa [show o + (j + 1) = o + 1 + j from by omega] at this) i c (by simpa using hi)
      rwa [show o + (i + 1) = o + 1 + i from by omega]
  | _ :: _, [], _, h, _ => h.elim
theorem Imp.sl {S S' : Type} {k : Nat} {f : S → List A} {f' : S' → List A} {L : List S} {L' : List S'} (hl : L'.length = L.length) (h : ∀ (i : Nat) y y', L[i]? = some y → L'[i]? = some y' → AllImp (f' y') (f y)) : Imp (A.sl k f L) (A.sl k f' L') := fun r v ⟨a, len, cap, e, h1, h2, h3, h4⟩ => by
  refine ⟨a, len, cap, e, by rw [hl]; exact h1, h2, h3, fun hn => ?_⟩
  obtain ⟨b, o, ea, hc⟩ := h4 (fun e => hn (List.eq_nil_of_length_eq_zero (by rw [hl, e]; rfl)))
  refine ⟨b, o, ea, fun i y' hy' => ?_⟩
  have hlt : i < L.length := by have := (List.getElem?_eq_some_iff.1 hy').1; omega
  exact AllImp.cellsAt (h i _ y' (List.getElem?_eq_getElem hlt) hy') (hc i _ (List.getElem?_eq_getElem hlt))
/-- The same list, of whose elements less is said. -/
theorem Imp.slf {S : Type} {k : Nat} {f f' : S → List A} {L : List S} (h : ∀ y, AllImp (f' y) (f y)) : Imp (A.sl k f L) (A.sl k f' L) := Imp.sl rfl fun i y y' h1 h2 => by rw [h1] at h2; cases h2; exact h y
/-- The same list, by another name. -/
theorem Imp.slm {S S' : Type} {k : Nat} {f : S → List A} {f' : S' → List A} {h : S → S'} {L : List S} (hf : ∀ y, f' (h y) = f y) : Imp (A.sl k f L) (A.sl k f' (L.map h)) := Imp.sl (by simp) fun i y y' h1 h2 => by
  rw [List.getElem?_map, h1] at h2; cases h2; exact AllImp.eq (hf y)
theorem Imp.slv {S : Type} {k : Nat} {f : S → List A} {L : List S} {v : Value} : Imp (A.slv v k f L) (A.sl k f L) := fun _ _ h => h.2
theorem Imp.slval {S : Type} {k : Nat} {f : S → List A} {L : List S} {v : Value} : Imp (A.slv v k f L) (A.val v) := fun _ _ h => h.1
theorem Imp.nil {S : Type} {k : Nat} {f : S → List A} : Imp (A.val (.slice none 0 0)) (A.sl k f []) := fun _ v h => by
  have h : v = _ := h
  subst h; exact ⟨none, 0, 0, rfl, rfl, Nat.le_refl _, Nat.zero_le _, fun h => absurd rfl h⟩
theorem All2.imp {r : Rho} {l m : List A} {vs : List Value} (h : AllImp l m) (k : All2 r m vs) : All2 r l vs := h.all2 k
theorem Imp.agg {l m : List A} (h : AllImp l m) : Imp (A.agg m) (A.agg l) := fun _ _ ⟨vs, e, k⟩ => ⟨vs, e, h.all2 k⟩
theorem Imp.pt {l m : List A} (h : AllImp l m) : Imp (A.pt m) (A.pt l) := fun _ _ ⟨b, o, e, k⟩ => ⟨b, o, e, AllImp.cellsAt h k⟩
theorem Imp.nwagg {c : Rho} {l : List A} : Imp (A.nw c (A.agg l)) (A.agg (l.map (A.nw c))) := fun r _ ⟨h, vs, e, k⟩ => by
  refine ⟨vs, e, ?_⟩
  have : ∀ (l : List A) (us : List Value), All2 (r.minus c) l us → All2 r (l.map (A.nw c)) us := by
    intro l
    induction l with
    | nil => intro us q; cases us with
      | nil => trivial
      | cons _ _ => exact q.elim
    | cons t l ih => intro us q; cases us with
      | nil => exact q.elim
      | cons u us => exact ⟨⟨h, q.1⟩, ih us q.2⟩
  exact this _ _ k
theorem Imp.nwi {c : Rho} {u t : A} (h : Imp u t) : Imp (A.nw c u) (A.nw c t) := fun _ _ k => ⟨k.1, h _ _ k.2⟩
theorem Imp.nwpure {c : Rho} {u : A} : Imp (A.nw c u) u := Imp.nw
theorem Imp.ex {T : Type} {f : T → A} (x : T) : Imp (f x) (A.ex f) := fun _ _ h => ⟨x, h⟩
theorem Imp.st {p : Prop} {t : A} (h : p) : Imp t (A.st p t) := fun _ _ k => ⟨h, k⟩
theorem Imp.any {t : A} : Imp t A.any := fun _ _ _ => trivial
theorem CellsOf.imp {t : A} {l m : List A} (h : CellsOf t m) (k : AllImp l m) : CellsOf t l := fun r v q => ⟨k.all2 (h r v q).1, (h r v q).2⟩
theorem OneV.slvv {S : Type} {k : Nat} {f : S → List A} {L : List S} {v : Value} : OneV (A.slv v k f L) := fun _ _ h => OneV.sl _ _ h.2
theorem OneV.nw {c : Rho} {t : A} (h : OneV t) : OneV (A.nw c t) := fun _ v k => h _ v k.2
theorem OneV.at_ {c : Rho} {t : A} (h : OneV t) : OneV (A.at_ c t) := fun _ v k => h _ v k.2
theorem OneV.ex {T : Type} {f : T → A} (h : ∀ x, OneV (f x)) : OneV (A.ex f) := fun r v ⟨x, k⟩ => h x r v k
theorem OneV.str {s : ByteArray} : OneV (A.str s) := fun _ _ h => by cases h; exact ⟨rfl, rfl⟩
theorem OneV.u8 {n : Int} : OneV (A.u8 n) := fun _ _ h => by cases h; exact ⟨rfl, rfl⟩

section
variable {P : Program} {own : OC} {ty T : TypeId} {x : Operand}
theorem OpN.post {need : Need} {op : Op} {t u : A} (h : OpN P own need op ty t) (k : Imp t u) : OpN P own need op ty u := fun r w a hok ho hn => by
  have := h r w a hok ho hn
  generalize (exec a op ty).run P w = res at this
  cases res with
  | halt x w1 => exact this.elim
  | ok n w1 =>
    cases n with
    | value v => obtain ⟨s, g, q⟩ := this; exact ⟨s, g, k _ _ q⟩
    | enter f args =>
      obtain ⟨e, q⟩ := this
      exact ⟨e, q.mono fun _ _ ⟨v, s, h1, h2, h3⟩ => ⟨v, s, h1, h2, k _ _ h3⟩⟩
    | _ => exact this.elim
theorem O_slice1 {e k bytes : Nat} {S : Type} {f : S → List A} (y : S) {u : A} {cells : List A} (h : TE P T e k bytes) (hk16 : Nat.ble k 16777216 = true) (hl : cells.length = k) (hc : CellsOf u cells) (hi : AllImp (f y) cells) :
    OpN P own [(true, x, u)] (.buildSlice T 1 #[(0, x)]) ty (A.sl k f [y]) := by
  have := O_buildSlice (P := P) (own := own) (ty := ty) (T := T) (e := e) (k := k) (n := 1) (bytes := bytes) (S := Unit) (f := fun _ => cells) [()] (ps := [(0, x)]) [(u, cells)] h (by simpa using hk16) (by simp [maxLen]) rfl (fun _ => hl)
    (by simp [partsOk, slPlaces, hl]) ⟨hc, trivial⟩ (by simp [fitsL, partOffs, slPlaces, hl, List.range_succ]) (by simp [fillL, partOffs, slPlaces, hl, List.range_succ, over])
  exact this.post (Imp.sl rfl fun i a b h1 h2 => by
    cases i with
    | zero => simp at h1 h2; subst h2; exact hi
    | succ i => simp at h1)
theorem O_slice0 {e k bytes : Nat} {S : Type} {f : S → List A} (h : TE P T e k bytes) : OpN P own [] (.buildSlice T 0 #[]) ty (A.sl k f []) := by
  have := O_buildSlice (P := P) (own := own) (ty := ty) (T := T) (e := e) (k := k) (n := 0) (bytes := bytes) (S := Unit) (f := fun _ => List.replicate k A.any) [] (ps := []) [] h (by simp) (by simp [maxLen]) rfl (fun _ => by simp)
    rfl trivial (by simp [fitsL, partOffs]) (by simp [fillL, partOffs])
  exact this.post (Imp.sl rfl fun i a b h1 h2 => by simp at h1)
end

section
variable {E : Env} {g : Ctx} {Q : Exit → Act → World → Prop} {ops : Array Oper} {rest : List Oper} {d s : Nat} {ty : TypeId} {pos : String} {aft : Array Edge} {t : A}
theorem run_slice0 {P : Program} {w : World} {T e k bytes : Nat} {a : Act} (h : TE P T e k bytes) : (execOp a.eval ⟨some d, .buildSlice T 0 #[], ty, pos, aft, none⟩).run P w = .ok (.value (.slice (some ⟨w.heap.size, 0, none⟩) 0 0)) (w.alloc (.cells #[] e)) := by
  obtain ⟨hu, i, z, hi, hz, hs, _, _⟩ := h
  have hsize : (sizeOf e).run P w = .ok k w := run_sizeOf (by unfold sizeAt; simp [hi, hs])
  simp [execOp, Instr.buildSlice, run_underlying hu, hsize, Instr.fill, newRow, newObj]
  have e0 : ∀ f : Nat → Value, Array.map f (Array.range 0) = #[] := fun f => by apply Array.ext <;> simp
  rw [e0]
  rfl
/-- An empty slice of one's own. -/
theorem WL_slice0o {T e k bytes : Nat} (h : TE E.P T e k bytes) (hd : Nat.ble (d + 1) E.n = true)
    (k' : ∀ b, WL E ops rest { g with sl := (d, true, A.os b 0 0) :: g.sl, own := (b, e, []) :: g.own } Q) : WL E ops (⟨some d, .buildSlice T 0 #[], ty, pos, aft, none⟩ :: rest) g Q := by
  intro a w ⟨h1, h2, r, H⟩
  refine wpListIn_value rfl (by simp) (fun _ => trivial) (run_slice0 h) (k' w.heap.size _ _ ⟨by rw [size_put]; exact h1, ?_, r, ?_⟩)
  · rw [defers_put]; exact h2.grow H (Grow.same H.ok ((Below.refl _ _).alloc (Nat.le_refl _) _))
  · have hlt : d < a.tmps.size := by rw [h1]; exact Nat.le_of_ble_eq_true hd
    have H' := H.allocOwn #[] e (cells := []) trivial
    exact { H' with slots := Slots.put H'.slots hlt (fun _ => rfl) (fun hc => by cases hc) }
/-- An empty slice with room. -/
theorem WL_slice0r {T e k bytes : Nat} {S : Type} (f : S → List A) (h : TE E.P T e k bytes) (hd : Nat.ble (d + 1) E.n = true)
    (k' : ∀ v, WL E ops rest { g with sl := (d, true, A.slv v k f []) :: g.sl, rooms := (v, e, k) :: g.rooms } Q) : WL E ops (⟨some d, .buildSlice T 0 #[], ty, pos, aft, none⟩ :: rest) g Q := by
  intro a w ⟨h1, h2, r, H⟩
  refine wpListIn_value rfl (by simp) (fun _ => trivial) (run_slice0 h) (k' (.slice (some ⟨w.heap.size, 0, none⟩) 0 0) _ _ ⟨by rw [size_put]; exact h1, ?_, r, ?_⟩)
  · rw [defers_put]; exact h2.grow H (Grow.same H.ok ((Below.refl _ _).alloc (Nat.le_refl _) _))
  · have hlt : d < a.tmps.size := by rw [h1]; exact Nat.le_of_ble_eq_true hd
    have gr : Grow r w r (w.alloc (.cells #[] e)) := Grow.same H.ok ((Below.refl _ _).alloc (Nat.le_refl _) _)
    have H' := H.grow gr (a' := a) H.slots
    exact { H' with
      slots := Slots.put H'.slots hlt (fun _ => ⟨rfl, _, 0, 0, rfl, rfl, Nat.le_refl _, Nat.zero_le _, fun h => absurd rfl h⟩) (fun hc => by cases hc)
      room := fun x hx => by
        rcases List.mem_cons.1 hx with rfl | hx
        · refine ⟨rfl, rfl, Nat.le_refl _, Nat.zero_le _, ⟨#[], World.alloc_heap_new w _, by simp⟩, fun o sp _ => ?_⟩
          cases e' : r _ with
          | none => rfl
          | some v => exact absurd (Rho.ok_lt H.ok e') (by simp)
        · exact H'.room x hx
      roomB := fun x hx b hb => by
        rcases List.mem_cons.1 hx with rfl | hx
        · cases hb
          refine ⟨.inr H.size, fun hm => ?_⟩
          obtain ⟨y, hy, e'⟩ := List.mem_map.1 hm
          have := (H.own y hy).lt
          have e'' : y.1 = w.heap.size := e'
          omega
        · exact H'.roomB x hx b hb
      roomN := by
        rw [List.filterMap_cons]
        show (w.heap.size :: _).Nodup
        rw [List.nodup_cons]
        refine ⟨fun hm => ?_, H'.roomN⟩
        obtain ⟨y, hy, e'⟩ := List.mem_filterMap.1 hm
        have := (H.room y hy).lt e'
        omega }
/-- A block is no more of one's own: it is read. -/
theorem WL_freezeN {l : List Oper} (i : Nat) (c : Rho) {b tb : Nat} {cells : List A} {cells' : List A} (hc : c ∈ g.cps) (hi : g.own[i]? = some (b, tb, cells)) (s : Nat) {v : Value} {u : A} (hs : look g.sl s = some (true, A.val v))
    (hn : AllNw c cells cells') (hu : ∀ r, A.CellsAt r b 0 cells' → u.p r v) (h : WL E ops l { g with sl := (s, true, A.nw c u) :: g.sl, own := g.own.eraseIdx i } Q) : WL E ops l g Q := by
  refine WL_freeze i hi s hs (fun r hcs hat => ?_) h
  obtain ⟨hcr, hcn⟩ := hcs c hc
  refine ⟨hcr, hu _ fun j c' hj => ?_⟩
  have hl : cells.length = cells'.length := by
    have : ∀ (l m : List A), AllNw c l m → l.length = m.length := by
      intro l
      induction l with
      | nil => intro m h; cases m with
        | nil => rfl
        | cons _ _ => exact h.elim
      | cons t l ih => intro m h; cases m with
        | nil => exact h.elim
        | cons u m => simp [ih m h.2]
    exact this _ _ hn
  have hg : ∀ (l m : List A), AllNw c l m → ∀ (j : Nat) u t, l[j]? = some u → m[j]? = some t → NwI c u t := by
    intro l
    induction l with
    | nil => intro m _ j u t h; simp at h
    | cons t l ih => intro m h j u t' hu ht; cases m with
      | nil => exact h.elim
      | cons u' m =>
        cases j with
        | zero => simp at hu ht; subst hu; subst ht; exact h.1
        | succ j => exact ih m h.2 j u t' (by simpa using hu) (by simpa using ht)
  have hjl : j < cells.length := by rw [hl]; exact (List.getElem?_eq_some_iff.1 hj).1
  obtain ⟨x, hx, hp⟩ := hat j _ (List.getElem?_eq_getElem hjl)
  refine ⟨x, ?_, hg _ _ hn j _ _ (List.getElem?_eq_getElem hjl) hj r x hcr hp⟩
  unfold Rho.minus
  rw [if_pos (hcn _ none)]; exact hx
end
end Go.L
/-! Arrays, lent slices, boxes of one's own. -/
namespace Go.L
open Go Go.RowKit

section
variable {P : Program} {own : OC} {ty : TypeId} {x i : Operand} {T e k n off : Nat} {c : Rho}
theorem OpN.pre1 {b : Bool} {need : Need} {op : Op} {t u u' : A} (h : OpN P own ((b, x, u) :: need) op ty t) (k : Imp u' u) : OpN P own ((b, x, u') :: need) op ty t := fun r w a hok ho hn =>
  h r w a hok ho fun z hz hb => by
    rcases List.mem_cons.1 hz with rfl | hz
    · exact k _ _ (hn (b, x, u') (List.mem_cons_self ..) hb)
    · exact hn z (List.mem_cons_of_mem _ hz) hb
theorem O_loadgw {cells : List A} (h : TG P T n) (hl : cells.length = n) : OpN P own [(true, x, A.pt cells)] (.load T x) ty (A.agg cells) := by
  have := O_loadg (P := P) (own := own) (ty := ty) (x := x) h (cells := cells) (by omega)
  rwa [← hl, List.take_length] at this
/-- An array type of n elements e of k cells. -/
def TAr (P : Program) (t n e k : Nat) : Prop := P.underlying t = some (.array n e) ∧ sizeAt P e = some k
theorem run_indexAtArr {w : World} (h : TAr P T n e k) {b o : Nat} {m : Int} (h0 : 0 ≤ m) (h1 : m < n) :
    (Instr.indexAt T (.pointer (some ⟨b, o, none⟩)) (.int .i64 m)).run P w = .ok (.pointer (some ⟨b, o + m.toNat * k, none⟩)) w := by
  simp [Instr.indexAt, asIntOf, run_underlying h.1, run_sizeOf h.2, Instr.sureAddr, h0, h1, add_off]
theorem O_indexarro {b o : Nat} {m : Int} (h : TAr P T n e k) (hb : 0 ≤ m ∧ m < n) :
    OpN P own [(true, x, A.val (.pointer (some ⟨b, o, none⟩))), (true, i, A.int m)] (.indexAddr T x i) ty (A.val (.pointer (some ⟨b, o + m.toNat * k, none⟩))) := fun r w a hok _ hn => by
  have hx : a.eval x = .pointer (some ⟨b, o, none⟩) := hn (true, x, _) (List.mem_cons_self ..) rfl
  have hi : a.eval i = .int .i64 m := hn (true, i, A.int m) (by simp) rfl
  simp only [exec, execOp, hx, hi, Sem.run_bind, run_indexAtArr h hb.1 hb.2, Result.andThen_ok, Sem.run_pure]
  exact Good.here hok rfl
theorem O_indexarr {cells : List A} {m : Int} (h : TAr P T n e k) (hb : 0 ≤ m ∧ m < n) :
    OpN P own [(true, x, A.pt cells), (true, i, A.int m)] (.indexAddr T x i) ty (A.pt (cells.drop (m.toNat * k))) := fun r w a hok _ hn => by
  obtain ⟨b, o, hx, hc⟩ := hn (true, x, A.pt cells) (by simp) rfl
  have hx : a.eval x = .pointer (some ⟨b, o, none⟩) := hx
  have hi : a.eval i = .int .i64 m := hn (true, i, A.int m) (by simp) rfl
  simp only [exec, execOp, hx, hi, Sem.run_bind, run_indexAtArr h hb.1 hb.2, Result.andThen_ok, Sem.run_pure]
  refine Good.here hok ⟨b, o + m.toNat * k, rfl, fun j c hj => ?_⟩
  have := hc (m.toNat * k + j) c (by simpa using hj)
  rwa [Nat.add_assoc]
theorem O_nilCheckn {l : List A} : OpN P own [(true, x, A.nw c (A.pt l))] (.nilCheck x) ty (A.nw c (A.pt l)) := fun r w a hok _ hn => by
  have h0 := hn (true, x, A.nw c (A.pt l)) (by simp) rfl
  obtain ⟨_, b, o, hx, _⟩ := id h0
  have hx : a.eval x = .pointer (some ⟨b, o, none⟩) := hx
  rw [hx] at h0
  simp only [exec, execOp, hx, Sem.run_pure]
  exact Good.here hok h0
end
theorem AllOne.nw {c : Rho} : ∀ {l : List A}, AllOne l → CellsOf (A.nw c (A.agg l)) (l.map (A.nw c)) := fun {l} h r v k => by
  obtain ⟨vs, e, q⟩ := Imp.nwagg _ _ k
  subst e
  refine ⟨q, ?_⟩
  have : ∀ (l : List A) (us : List Value), AllOne l → All2 r (l.map (A.nw c)) us → ∀ u ∈ us, u.oneCell' = true := by
    intro l
    induction l with
    | nil => intro us _ q; cases us with
      | nil => simp
      | cons _ _ => exact q.elim
    | cons t l ih => intro us h q; cases us with
      | nil => simp
      | cons u us =>
        intro z hz
        rcases List.mem_cons.1 hz with rfl | hz
        · exact (h.1 _ z q.1.2).2
        · exact ih us h.2 q.2 z hz
  exact this _ _ h q
theorem Lend.os {O : Own} (j : Nat) {b ty n cap k : Nat} {cells : List A} {S : Type} {f : S → List A} {L : List S} (hi : nth O j = some (b, ty, cells)) (hn : n = L.length) (h1 : n ≤ cap) (h2 : cap ≤ maxLen)
    (hk : ∀ y, (f y).length = k) (hc : AllImp (L.flatMap f) (cells.take (L.flatMap f).length)) : Lend O (A.os b n cap) (A.sl k f L) := fun r v hO hv => by
  have hv : v = _ := hv
  subst hv
  rw [nth_eq] at hi
  have hat := hO _ (List.mem_of_getElem? hi)
  refine ⟨_, _, _, rfl, hn, h1, h2, fun _ => ⟨b, 0, rfl, ?_⟩⟩
  refine rows_of_flat (fun y _ => hk y) (AllImp.cellsAt hc fun i c hc => hat i c ?_)
  rw [List.getElem?_take] at hc
  split at hc
  · exact hc
  · cases hc
theorem Lend.op {O : Own} (j : Nat) {b ty : Nat} {cells l : List A} (hi : nth O j = some (b, ty, cells)) (hc : AllImp l cells) : Lend O (A.val (.pointer (some ⟨b, 0, none⟩))) (A.pt l) := fun r v hO hv => by
  have hv : v = _ := hv
  subst hv
  rw [nth_eq] at hi
  exact ⟨b, 0, rfl, AllImp.cellsAt hc (hO _ (List.mem_of_getElem? hi))⟩
section
variable {E : Env} {g : Ctx} {Q : Exit → Act → World → Prop} {ops : Array Oper} {rest : List Oper} {d s : Nat} {ty : TypeId} {pos : String} {aft : Array Edge} {t : A}
/-- A variable of one's own, with a value. -/
theorem WL_boxo {T : Nat} {x : Operand} {u : A} {cells : List A} (hc : CellsOf u cells) (hr : Read1 g.sl true (true, x, u)) (hd : Nat.ble (d + 1) E.n = true)
    (h : ∀ b, WL E ops rest { g with sl := (d, true, A.val (.pointer (some ⟨b, 0, none⟩))) :: g.sl, own := (b, T, cells) :: g.own } Q) : WL E ops (⟨some d, .box T x, ty, pos, aft, none⟩ :: rest) g Q := by
  intro a w ⟨h1, h2, r, H⟩
  have hu : u.p r (a.eval x) := (Reads.use (l := [(true, x, u)]) ⟨hr, trivial⟩ rfl H.slots) (true, x, u) (by simp) rfl
  obtain ⟨k1, _⟩ := hc r _ hu
  have hrun : (execOp a.eval ⟨some d, .box T x, ty, pos, aft, none⟩).run E.P w = .ok (.value (.pointer (some ⟨w.heap.size, 0, none⟩))) (w.alloc (.cells (a.eval x).cells T)) := by
    simp [execOp, Instr.box, run_newVar]
  refine wpListIn_value rfl (by simp) (fun _ => trivial) hrun (h w.heap.size _ _ ⟨by rw [size_put]; exact h1, ?_, r, ?_⟩)
  · rw [defers_put]; exact h2.grow H (Grow.same H.ok ((Below.refl _ _).alloc (Nat.le_refl _) _))
  · have hlt : d < a.tmps.size := by rw [h1]; exact Nat.le_of_ble_eq_true hd
    have H' := H.allocOwn (a.eval x).cells T (cells := cells) k1
    exact { H' with slots := Slots.put H'.slots hlt (fun _ => rfl) (fun hc => by cases hc) }
theorem WL_lenr {T e k : Nat} {S : Type} {f : S → List A} {L : List S} {v : Value} (hT : TS E.P T e k) (hl : look g.sl s = some (true, A.slv v k f L)) (hd : Nat.ble (d + 1) E.n = true)
    (h : L.length ≤ 9223372036854775807 → WL E ops rest { g with sl := (d, true, A.int L.length) :: g.sl } Q) :
    WL E ops (⟨some d, .call { callee := .builtin .len, args := #[.tmp s], argTypes := #[T] }, ty, pos, aft, none⟩ :: rest) g Q := by
  intro a w k
  obtain ⟨h1, h2, r, H⟩ := id k
  obtain ⟨_, p, len, cap, _, h3, h4, h5, _⟩ := (H.slots s true _ hl).1 rfl
  exact WL_step (S_plain ((O_len hT).pre1 Imp.slv) ⟨T1 hl, trivial⟩ (by simp [slotIn, Op.operands, Call.operands]) hd) (h (by simp only [maxLen] at h5; omega)) a w k
end
end Go.L
/-! Slices made and filled; shapes; parameters that are handed over. -/
namespace Go.L
open Go Go.RowKit

/-- A parameter as the body sees it. -/
def From (c : Rho) (t u : A) : Prop := ∀ r v, c.le r → t.p (r.minus c) v → u.p r v
theorem From.nw {c : Rho} {t : A} : From c t (A.nw c t) := fun _ _ h k => ⟨h, k⟩
theorem From.val {c : Rho} {v : Value} : From c (A.val v) (A.val v) := fun _ _ _ k => k
def AllFrom (c : Rho) : List A → List A → Prop
  | [], [] => True
  | t :: l, u :: m => From c t u ∧ AllFrom c l m
  | _, _ => False
theorem AllFrom.all2 {c r : Rho} (h1 : c.le r) : ∀ {l m : List A} {vs : List Value}, AllFrom c l m → All2 (r.minus c) l vs → All2 r m vs
  | [], [], [], _, _ => trivial
  | [], [], _ :: _, _, k => k.elim
  | _ :: _, _ :: _, _ :: _, h, k => ⟨h.1 _ _ h1 k.1, AllFrom.all2 h1 h.2 k.2⟩
  | _ :: _, _ :: _, [], _, k => k.elim
  | [], _ :: _, _, h, _ => h.elim
  | _ :: _, [], _, h, _ => h.elim
theorem FnK_of_W' {P : Program} {f : FuncId} {fn : Func} {c : Code} {args : List A} {t : A} (args' : Rho → List A) (hf : P.funcs[f]? = some fn) (hb : fn.body = some c) (hn : ∀ c0, Nat.ble (args' c0).length fn.ntmps = true) (hfr : ∀ c0, AllFrom c0 args (args' c0))
    (h : ∀ c0 r w, W (EK P fn.ntmps w r (r.beyond c0)) c ⟨params 0 (args' c0), [], [], [], [], [c0]⟩ (bodyPostM (fz none) 9 P fn (fun e w' => ∃ v s, e = .returned v ∧ GrowK (r.beyond c0) r w s w' ∧ ∀ s', t.p s' v))) : FnK P f args t := by
  intro c0 r w vs hok hc hu ha
  exact Calls_of_W hf hb (hn c0) hok ((hfr c0).all2 hc ha) MemOk.nil (fun _ h => (Mem.blk_nil h).elim) (fun x v _ k => ⟨⟨x, k, rfl⟩, hu x k⟩) (fun c hc' => by rcases List.mem_singleton.1 hc' with rfl; exact hc) (h c0 r w)

theorem AllNw.append {c : Rho} : ∀ {l l' m m' : List A}, AllNw c l m → AllNw c l' m' → AllNw c (l ++ l') (m ++ m')
  | [], _, [], _, _, k => k
  | _ :: _, _, _ :: _, _, h, k => ⟨h.1, AllNw.append h.2 k⟩
  | [], _, _ :: _, _, h, _ => h.elim
  | _ :: _, _, [], _, h, _ => h.elim
theorem AllNw.flatMap {c : Rho} {T : Type} {f f' : T → List A} (h : ∀ y, AllNw c (f y) (f' y)) : ∀ (L : List T), AllNw c (L.flatMap f) (L.flatMap f')
  | [] => trivial
  | y :: L => by rw [List.flatMap_cons, List.flatMap_cons]; exact (h y).append (AllNw.flatMap h L)
theorem AllNw.nws {c : Rho} : ∀ (l : List A), AllNw c (l.map (A.nw c)) l
  | [] => trivial
  | _ :: l => ⟨NwI.nw, AllNw.nws l⟩
theorem sl_of_cells {r : Rho} {T : Type} {k b n : Nat} {f : T → List A} {L : List T} (hk : ∀ y, (f y).length = k) (hn : n = L.length) (hm : n ≤ maxLen) (h : A.CellsAt r b 0 (L.flatMap f)) : (A.sl k f L).p r (.slice (some ⟨b, 0, none⟩) n n) :=
  ⟨_, _, _, rfl, hn, Nat.le_refl _, hm, fun _ => ⟨b, 0, rfl, rows_of_flat (fun y _ => hk y) h⟩⟩

theorem NwI.agg {c : Rho} {l m : List A} (h : AllNw c l m) : NwI c (A.agg l) (A.agg m) := fun _ _ hc ⟨vs, e, k⟩ => ⟨vs, e, h.all2 hc k⟩
theorem RV.nw {E : Env} {g : Ctx} {x : ResultVar} {c : Rho} {u t : A} (hc : c ∈ g.cps) (h : RV E g x u) (hn : NwI c u t) : RV E g x (A.nw c t) := fun r a w H => by
  obtain ⟨v, e, k⟩ := h r a w H
  exact ⟨v, e, H.cps c hc, hn r v (H.cps c hc) k⟩
/-- A slice of one's own is no more: it is read. -/
theorem WL_freezeSl {E : Env} {g : Ctx} {Q : Exit → Act → World → Prop} {ops : Array Oper} {l : List Oper} (i : Nat) (c : Rho) {b tb n cap k : Nat} {cells : List A} {T : Type} {f f' : T → List A} {L : List T} (sp : List A) (hc : c ∈ g.cps) (hi : g.own[i]? = some (b, tb, cells)) (s : Nat)
    (hs : look g.sl s = some (true, A.os b n cap)) (he : cells = L.flatMap f ++ sp) (hn : n = L.length) (hcap : n ≤ cap) (hm : cap ≤ maxLen) (hk : ∀ y, (f' y).length = k) (hnw : ∀ y, AllNw c (f y) (f' y))
    (h : WL E ops l { g with sl := (s, true, A.nw c (A.sl k f' L)) :: g.sl, own := g.own.eraseIdx i } Q) : WL E ops l g Q := by
  have hsp : ∀ (m : List A), AllNw c m (m.map fun _ => A.any) := by
    intro m
    induction m with
    | nil => trivial
    | cons t m ih => exact ⟨fun _ _ _ _ => trivial, ih⟩
  refine WL_freezeN i c (cells' := L.flatMap f' ++ sp.map fun _ => A.any) hc hi s hs (he ▸ (AllNw.flatMap hnw L).append (hsp sp)) (fun r hat => ?_) h
  refine ⟨_, _, _, rfl, hn, hcap, hm, fun _ => ⟨b, 0, rfl, rows_of_flat (fun y _ => hk y) fun j u hj => hat j u ?_⟩⟩
  rw [List.getElem?_append_left (List.getElem?_eq_some_iff.1 hj).1]; exact hj

section
variable {T : Type} {f : T → List A} {k : Nat} {z : List A}
theorem flatMap_len {L : List T} (hk : ∀ y, (f y).length = k) : (L.flatMap f).length = L.length * k := flat_length (fun y _ => hk y)
/-- Filled up to j. -/
def filled (f : T → List A) (z : List A) (L : List T) (j : Nat) : List A := (L.take j).flatMap f ++ (List.replicate (L.length - j) z).flatten
theorem filled_zero {L : List T} : (List.replicate L.length z).flatten = filled f z L 0 := by simp [filled]
theorem filled_all {L : List T} {j : Nat} (h : L.length ≤ j) : filled f z L j = L.flatMap f := by
  unfold filled; rw [List.take_of_length_le h, show L.length - j = 0 from by omega]; simp
theorem filled_len {L : List T} {j : Nat} (hk : ∀ y, (f y).length = k) (hz : z.length = k) (hj : j ≤ L.length) : (filled f z L j).length = L.length * k := by
  unfold filled
  rw [List.length_append, flatMap_len hk, List.length_flatten]
  simp [hz, Nat.min_eq_left hj]
  rw [← Nat.add_mul]; congr 1; omega
theorem filled_step [Inhabited T] (L : List T) (j : Nat) (hk : ∀ y, (f y).length = k) (hz : z.length = k) (hj : j < L.length) : over (filled f z L j) ((j : Int).toNat * k) (f (idx L (j : Int))) = filled f z L (j + 1) := by
  have hg : idx L (j : Int) = L[j] := by unfold idx; simp [hj]
  rw [Int.toNat_natCast]
  have h1 : ((L.take j).flatMap f).length = j * k := by rw [flatMap_len hk]; simp [Nat.min_eq_left (Nat.le_of_lt hj)]
  have h2 : L.length - j = (L.length - (j + 1)) + 1 := by omega
  unfold over filled
  rw [h2, List.replicate_succ, List.flatten_cons, hg, hk]
  rw [List.take_append_of_le_length (by omega), List.take_of_length_le (by omega), List.drop_append, h1]
  rw [List.drop_of_length_le (by omega), List.nil_append, show j * k + k - j * k = k from by omega]
  rw [List.drop_append_of_le_length (by omega), List.drop_of_length_le (by omega), List.nil_append]
  rw [List.take_succ_eq_append_getElem hj, List.flatMap_append]
  simp
end

/-- What is said of the shape alone. -/
theorem KS.pure {u : A} (h : Pure u) : KS u := fun _ _ _ _ k => h _ _ _ k
theorem KS.anyI : KS A.anyI := KS.pure fun _ _ _ h => h
theorem KS.anyB : KS A.anyB := KS.pure fun _ _ _ h => h
def AllKS : List A → Prop
  | [] => True
  | t :: l => (KS t ∧ (∀ r v v', t.p r v → SameKind v v' → t.p r v')) ∧ AllKS l
theorem KSc.anyI : KS A.anyI ∧ (∀ r v v', A.anyI.p r v → SameKind v v' → A.anyI.p r v') := ⟨KS.anyI, fun r v v' ⟨n, h⟩ k => by
  have h : v = _ := h
  subst h
  rcases k with ⟨kk, a, b, e, rfl⟩ | ⟨a, b, e, _⟩
  · cases e; exact ⟨b, rfl⟩
  · cases e⟩
theorem KSc.anyB : KS A.anyB ∧ (∀ r v v', A.anyB.p r v → SameKind v v' → A.anyB.p r v') := ⟨KS.anyB, fun r v v' ⟨n, h⟩ k => by
  have h : v = _ := h
  subst h
  rcases k with ⟨kk, a, b, e, _⟩ | ⟨a, b, e, rfl⟩
  · cases e
  · exact ⟨b, rfl⟩⟩
theorem AllKS.get {l : List A} (h : AllKS l) {i : Nat} {t : A} (e : l[i]? = some t) : KS t ∧ (∀ r v v', t.p r v → SameKind v v' → t.p r v') := by
  induction l generalizing i with
  | nil => simp at e
  | cons u l ih => cases i with
    | zero => simp at e; subst e; exact h.1
    | succ i => exact ih h.2 (by simpa using e)
theorem AllKS.cells {l : List A} (h : AllKS l) {r s : Rho} (hk : r.leK (fun _ => True) s) {b o : Nat} (k : A.CellsAt r b o l) : A.CellsAt s b o l := fun i c e => by
  obtain ⟨h1, h2⟩ := h.get e
  obtain ⟨x, hx, hp⟩ := k i c e
  obtain ⟨x', k1, k2⟩ := hk _ _ hx
  refine ⟨x', k1, ?_⟩
  have := h1 r s x hk hp
  rcases k2 with rfl | ⟨_, k2⟩
  · exact this
  · exact h2 s x x' this k2
theorem KS.sl {T : Type} {k : Nat} {f : T → List A} {L : List T} (h : ∀ y, AllKS (f y)) : KS (A.sl k f L) := fun r s v hk ⟨a, len, cap, e, h1, h2, h3, h4⟩ =>
  ⟨a, len, cap, e, h1, h2, h3, fun hn => let ⟨b, o, ea, hc⟩ := h4 hn; ⟨b, o, ea, fun i y hy => (h y).cells hk (hc i y hy)⟩⟩
theorem KS.pt {l : List A} (h : AllKS l) : KS (A.pt l) := fun r s v hk ⟨b, o, e, hc⟩ => ⟨b, o, e, h.cells hk hc⟩
theorem KSc.sl {T : Type} {k : Nat} {f : T → List A} {L : List T} (h : ∀ y, AllKS (f y)) : KS (A.sl k f L) ∧ (∀ r v v', (A.sl k f L).p r v → SameKind v v' → (A.sl k f L).p r v') :=
  ⟨KS.sl h, fun r v v' ⟨a, len, cap, e, _⟩ q => by
    subst e
    rcases q with ⟨_, _, _, e, _⟩ | ⟨_, _, e, _⟩ <;> cases e⟩

/-- Lists are equal where their elements are. -/
theorem list_eq_of {T : Type} [Inhabited T] {L M : List T} (hl : L.length = M.length) (h : ∀ j, j < L.length → idx L (j : Int) = idx M (j : Int)) : L = M := by
  apply List.ext_getElem hl
  intro i h1 h2
  have := h i h1
  unfold idx at this
  simpa [h1, h2] using this
theorem list_ne_of {T : Type} [Inhabited T] {L M : List T} (k : Nat) (h : idx L (k : Int) ≠ idx M (k : Int)) : L ≠ M := fun e => h (by rw [e])
end Go.L
/-! Returns with memory; what is lent and taken. -/
namespace Go.L
open Go Go.RowKit

theorem MemOk.osub {r : Rho} {w : World} {m : Mem} {own' : Own} {rooms' : List (Value × Nat × Nat)} {maps' : List (Nat × List (Value × A))} (h : MemOk r w m) (ho : OSub own' m.own) (hr : rooms'.Sublist m.rooms) (hm : maps'.Sublist m.maps) : MemOk r w ⟨own', rooms', maps'⟩ :=
  ⟨ho.ok h.own, fun x hx => h.room x (hr.subset hx), fun x hx => h.maps x (hm.subset hx), fun x hx => h.mapu x (hm.subset hx), h.nodO.sublist ho.fst, fun x hx b hb hq => h.roomD x (hr.subset hx) b hb (ho.fst.subset hq), h.nodR.sublist (hr.filterMap _), h.nodM.sublist (hm.map _)⟩
theorem Mem.blk_sub {m : Mem} {own' : Own} {rooms' : List (Value × Nat × Nat)} {maps' : List (Nat × List (Value × A))} (ho : OSub own' m.own) (hr : rooms'.Sublist m.rooms) (hm : maps'.Sublist m.maps) {b : Nat} (h : Mem.blk ⟨own', rooms', maps'⟩ b) : m.blk b := by
  rcases h with h | h | h
  · exact .inl (ho.fst.subset h)
  · exact .inr (.inl ((hr.filterMap _).subset h))
  · exact .inr (.inr ((hm.map _).subset h))
theorem WL_lenn {E : Env} {g : Ctx} {Q : Exit → Act → World → Prop} {ops : Array Oper} {rest : List Oper} {d s : Nat} {ty : TypeId} {pos : String} {aft : Array Edge} {T e k : Nat} {S : Type} {f : S → List A} {L : List S} {c : Rho} (hT : TS E.P T e k) (hl : look g.sl s = some (true, A.nw c (A.sl k f L))) (hd : Nat.ble (d + 1) E.n = true)
    (h : L.length ≤ 9223372036854775807 → WL E ops rest { g with sl := (d, true, A.int L.length) :: g.sl } Q) :
    WL E ops (⟨some d, .call { callee := .builtin .len, args := #[.tmp s], argTypes := #[T] }, ty, pos, aft, none⟩ :: rest) g Q := by
  intro a w k
  obtain ⟨h1, h2, r, H⟩ := id k
  obtain ⟨_, p, len, cap, _, h3, h4, h5, _⟩ := (H.slots s true _ hl).1 rfl
  exact WL_step (S_plain (O_lenn hT) ⟨T1 hl, trivial⟩ (by simp [slotIn, Op.operands, Call.operands]) hd) (h (by simp only [maxLen] at h5; omega)) a w k
section
variable {P : Program} {n : Nat} {w0 : World} {r0 : Rho} {g : Ctx} {fn : Func} {e : Exit}
/-- The blocks io, in their order, go back to the caller. -/
theorem RetXs {T : Type} {m : Mem} {t : T → A} {m' : T → Mem} (io : List Nat) (x : T) (he : isRet e = true) (hv : ResOk (EX P n w0 r0 m.blk) g.bare fn (t x)) (ho : OSub (m' x).own (picks io g.own)) (hi : decide io.Nodup = true) (hr : (m' x).rooms.Sublist g.rooms) (hm : (m' x).maps.Sublist g.maps) :
    Fin (EX P n w0 r0 m.blk) g e (bodyPostM (fz none) 9 P fn (RetX m r0 w0 t m')) :=
  RetX_ x he hv (fun r a w H => by
      have h1 := MemOk.picks H io [] [] (m := ⟨picks io g.bare.own, [], []⟩) (of_decide_eq_true hi) List.nodup_nil List.nodup_nil OSub.refl rfl rfl
      have H1 : HoldsAt _ { g.bare with own := picks io g.own } r a w := H.reown (fun x hx => mem_picks hx) h1.nodO
      exact H1.memOk.osub ho hr hm) (fun b h => by
      have := Mem.blk_sub (m := ⟨picks io g.own, g.rooms, g.maps⟩) ho hr hm (b := b) h
      rcases this with h | h | h
      · obtain ⟨y, hy, e⟩ := List.mem_map.1 h
        exact .inl (List.mem_map.2 ⟨y, mem_picks hy, e⟩)
      · exact .inr (.inl h)
      · exact .inr (.inr h))
end
end Go.L
/-! Maps of one's own; keys that are structs. -/
namespace Go.L
open Go Go.RowKit
open Classical in
/-- The first entry with a key. -/
noncomputable def mfind {T : Type} : List (Value × T) → Value → Option T
  | [], _ => none
  | (k, t) :: l, v => if k = v then some t else mfind l v
theorem mfind_none {T : Type} {v : Value} : ∀ {l : List (Value × T)}, (∀ e ∈ l, e.1 ≠ v) → mfind l v = none
  | [], _ => rfl
  | (k, t) :: l, h => by
    unfold mfind
    rw [if_neg (h (k, t) (by simp))]
    exact mfind_none fun e he => h e (by simp [he])
theorem mfind_some {T : Type} {v : Value} : ∀ {l : List (Value × T)}, (l.map (·.1)).Nodup → ∀ {k : Value} {t : T}, (k, t) ∈ l → k = v → mfind l v = some t
  | (k', t') :: l, hn, k, t, h, e => by
    unfold mfind
    rw [List.map_cons, List.nodup_cons] at hn
    rcases List.mem_cons.1 h with h | h
    · cases h; rw [if_pos e]
    · rw [if_neg (fun e' => hn.1 (List.mem_map.2 ⟨_, h, by rw [e', ← e]⟩))]
      exact mfind_some hn.2 h e
theorem mfind_map {T S : Type} (f : T → S) (v : Value) : ∀ (l : List (Value × T)), mfind (l.map fun e => (e.1, f e.2)) v = (mfind l v).map f
  | [] => rfl
  | (k, t) :: l => by
    unfold mfind
    rw [List.map_cons]
    by_cases h : k = v
    · simp only [h, if_true]; rfl
    · simp only [h, if_false]; rw [mfind_map f v l]

/-- Keys that can be looked for. -/
def KeyOk (P : Program) (k : TypeId) (v : Value) : Prop := ∃ l, keyOf P k v = some l
structure MapT (P : Program) (T k e : TypeId) : Prop where
  desc : P.underlying T = some (.map k e)
  keyed : Go.Maps.Keyed P k

section
variable {P : Program} {w : World} {T k e : TypeId}
theorem All2.map {r : Rho} : ∀ {l : List A} {vs : List Value} {i : Nat} {t : A} {v : Value}, All2 r l vs → l[i]? = some t → vs[i]? = some v → t.p r v
  | _ :: _, _ :: _, 0, _, _, h, a, b => by simp at a b; subst a; subst b; exact h.1
  | _ :: _, _ :: _, i + 1, _, _, h, a, b => All2.map h.2 (by simpa using a) (by simpa using b)
  | [], _, _, _, _, _, a, _ => by simp at a
  | _ :: _, [], _, _, _, h, _, _ => h.elim
/-- A lookup in a map. -/
theorem run_lookup_ok (h : MapT P T k e) {r : Rho} {b : Nat} {es : List (Value × A)} (hm : MapAt r w b es) (hk : ∀ x ∈ es, KeyOk P k x.1) (hn : (es.map (·.1)).Nodup) {v z : Value} (hv : KeyOk P k v) (hz : (zeroValue e).run P w = .ok z w) :
    ∃ u, (Instr.lookup T (.map (some b)) v true).run P w = .ok (.tuple #[u, .bool (mfind es v).isSome]) w ∧ (∀ t, mfind es v = some t → t.p r u) ∧ (mfind es v = none → u = z) := by
  obtain ⟨arr, cl, hb, h1, h2⟩ := hm
  obtain ⟨l, hl⟩ := hv
  have hkeys : ∀ x ∈ arr.toList, ∃ l, keyOf P k x.key = some l := fun x hx => by
    have : x.key ∈ es.map (·.1) := by rw [← h1]; exact List.mem_map.2 ⟨x, hx, rfl⟩
    obtain ⟨y, hy, e'⟩ := List.mem_map.1 this
    obtain ⟨l, hl⟩ := hk y hy
    exact ⟨l, by rw [← e']; exact hl⟩
  rcases h.keyed.find w hl arr.toList hkeys with ⟨q1, q2⟩ | ⟨j, e0, q1, q2, q3⟩
  · have hnone : mfind es v = none := mfind_none fun x hx e' => by
      have : x.1 ∈ arr.toList.map (·.key) := by rw [h1]; exact List.mem_map.2 ⟨x, hx, rfl⟩
      obtain ⟨y, hy, e2⟩ := List.mem_map.1 this
      exact q2 y hy (e2.trans e')
    refine ⟨z, ?_, fun t ht => (by rw [hnone] at ht; cases ht), fun _ => rfl⟩
    rw [hnone]
    simp [Instr.lookup, run_underlying h.desc, MapKept.run_getObj_map hb, h.keyed.check w _ hl, q1, hz]
  · have hjl : j < es.length := by
      have e1 := congrArg List.length h1
      have := (List.getElem?_eq_some_iff.1 q2).1
      simp at e1 this; omega
    have hkey : (es[j]).1 = v := by
      have e1 : (arr.toList.map (·.key))[j]? = some e0.key := by rw [List.getElem?_map, q2]; rfl
      rw [h1, List.getElem?_map, List.getElem?_eq_getElem hjl] at e1
      have := Option.some.inj e1
      exact this.trans q3
    have hsome : mfind es v = some (es[j]).2 := mfind_some hn (k := (es[j]).1) (List.getElem_mem hjl) hkey
    refine ⟨e0.val, ?_, fun t ht => ?_, fun hnone => by rw [hsome] at hnone; cases hnone⟩
    · rw [hsome]
      simp [Instr.lookup, run_underlying h.desc, MapKept.run_getObj_map hb, h.keyed.check w _ hl, q1]
    · rw [hsome] at ht; cases ht
      refine All2.map h2 (i := j) ?_ ?_
      · rw [List.getElem?_map, List.getElem?_eq_getElem hjl]; rfl
      · rw [List.getElem?_map, q2]; rfl
end

section
variable {E : Env} {g : Ctx} {Q : Exit → Act → World → Prop} {ops : Array Oper} {rest : List Oper}
/-- A new map. -/
theorem WL_makeMap {d T : Nat} {ty : TypeId} {pos : String} {aft : Array Edge} (hd : Nat.ble (d + 1) E.n = true)
    (h : ∀ b, WL E ops rest { g with sl := (d, true, A.val (.map (some b))) :: g.sl, maps := (b, []) :: g.maps } Q) :
    WL E ops (⟨some d, .makeMap T none, ty, pos, aft, none⟩ :: rest) g Q := by
  intro a w ⟨h1, h2, r, H⟩
  have hrun : (execOp a.eval ⟨some d, .makeMap T none, ty, pos, aft, none⟩).run E.P w = .ok (.value (.map (some w.heap.size))) (w.alloc (.map #[] 0)) := by
    simp [execOp, Instr.makeMap, newObj]
    rfl
  have gr : Grow r w r (w.alloc (.map #[] 0)) := Grow.same H.ok ((Below.refl _ _).alloc (Nat.le_refl _) _)
  refine wpListIn_value rfl (by simp) (fun _ => trivial) hrun (h w.heap.size _ _ ⟨by rw [size_put]; exact h1, ?_, r, ?_⟩)
  · rw [defers_put]; exact h2.grow H gr
  · have hlt : d < a.tmps.size := by rw [h1]; exact Nat.le_of_ble_eq_true hd
    have H' := H.grow gr (a' := a) H.slots
    exact { H' with
      slots := Slots.put H'.slots hlt (fun _ => rfl) (fun hc => by cases hc)
      mp := {
        at_ := fun x hx => by
          rcases List.mem_cons.1 hx with rfl | hx
          · exact ⟨#[], 0, World.alloc_heap_new w _, rfl, trivial⟩
          · exact H'.mp.at_ x hx
        un := fun x hx o s => by
          rcases List.mem_cons.1 hx with rfl | hx
          · cases e : r ⟨w.heap.size, o, s⟩ with
            | none => rfl
            | some v => exact absurd (Rho.ok_lt H.ok e) (by simp)
          · exact H'.mp.un x hx o s
        base := fun x hx => by
          rcases List.mem_cons.1 hx with rfl | hx
          · exact .inr H.size
          · exact H'.mp.base x hx
        nodup := by
          rw [List.map_cons, List.nodup_cons]
          refine ⟨fun hm => ?_, H'.mp.nodup⟩
          obtain ⟨y, hy, e⟩ := List.mem_map.1 hm
          have := (H.mp.at_ y hy).lt
          omega
        obj := H'.mp.obj
        objN := H'.mp.objN } }

/-- A lookup. -/
theorem WL_lookup (i : Nat) {d T k e : Nat} {m x : Operand} {ty : TypeId} {pos : String} {aft : Array Edge} {b : Nat} {es : List (Value × A)} {v : Value} {z : Value} (hT : MapT E.P T k e) (hz : ∀ w, (zeroValue e).run E.P w = .ok z w) 
    (hr : Reads g.sl true [(true, m, A.val (.map (some b))), (true, x, A.val v)]) (hi : g.maps[i]? = some (b, es)) (hk : ∀ y ∈ es, KeyOk E.P k y.1) (hn : (es.map (·.1)).Nodup) (hv : KeyOk E.P k v) (hd : Nat.ble (d + 1) E.n = true)
    (h : WL E ops rest { g with sl := (d, true, A.tup [(mfind es v).getD (A.val z), A.bool (mfind es v).isSome]) :: g.sl } Q) :
    WL E ops (⟨some d, .lookup T m x true, ty, pos, aft, none⟩ :: rest) g Q := by
  intro a w ⟨h1, h2, r, H⟩
  have hu := hr.use rfl H.slots
  have hm : a.eval m = .map (some b) := hu (true, m, A.val (.map (some b))) (by simp) rfl
  have hx : a.eval x = v := hu (true, x, A.val v) (by simp) rfl
  obtain ⟨u, q1, q2, q3⟩ := run_lookup_ok (w := w) hT (H.mp.at_ _ (List.mem_of_getElem? hi)) hk hn hv (hz w)
  have hrun : (execOp a.eval ⟨some d, .lookup T m x true, ty, pos, aft, none⟩).run E.P w = .ok (.value (.tuple #[u, .bool (mfind es v).isSome])) w := by
    simp [execOp, hm, hx, q1]
  refine wpListIn_value rfl (by simp) (fun _ => trivial) hrun (h _ _ ⟨by rw [size_put]; exact h1, by rw [defers_put]; exact h2, r, ?_⟩)
  have hlt : d < a.tmps.size := by rw [h1]; exact Nat.le_of_ble_eq_true hd
  refine { H with slots := Slots.put H.slots hlt (fun _ => ⟨_, rfl, ?_, rfl, trivial⟩) (fun hc => by cases hc) }
  cases hf : mfind es v with
  | none => exact q3 hf
  | some t => exact q2 t hf

theorem HoldsAt.putMap {r : Rho} {a : Act} {w : World} (H : HoldsAt E g r a w) {i b : Nat} {es es' : List (Value × A)} (hi : g.maps[i]? = some (b, es)) {arr : Array MapEntry} {cl : Nat} (h1 : arr.toList.map (·.key) = es'.map (·.1)) (h2 : All2 r (es'.map (·.2)) (arr.toList.map (·.val))) :
    HoldsAt E { g with maps := g.maps.set i (b, es') } r a (w.putObj b (.map arr cl)) := by
  have hmem := List.mem_of_getElem? hi
  obtain ⟨arr0, cl0, hb, _, _⟩ := H.mp.at_ _ hmem
  have hlt := (Array.getElem?_eq_some_iff.1 hb).1
  have hbase := H.mp.base _ hmem
  have hun := H.mp.un _ hmem
  have other : ∀ k, k ≠ b → (w.putObj b (.map arr cl)).heap[k]? = w.heap[k]? := fun k hk => World.putObj_heap_other hk
  have cells : ∀ k vs ty fr, w.heap[k]? = some (Obj.cells vs ty fr) → (w.putObj b (.map arr cl)).heap[k]? = some (Obj.cells vs ty fr) := fun k vs ty fr e => by
    rw [other k (fun e' => by subst e'; rw [hb] at e; cases e)]; exact e
  have unf : ∀ k, Unf w k → Unf (w.putObj b (.map arr cl)) k := fun k hu cs ty fr e => by
    by_cases hk : k = b
    · subst hk; rw [World.putObj_heap_same hlt] at e; cases e
    · rw [other k hk] at e; exact hu _ _ _ e
  have hne : ∀ x ∈ g.maps.set i (b, es'), x = (b, es') ∨ (x ∈ g.maps ∧ x.1 ≠ b) := by
    intro x hx
    obtain ⟨j, hj, e⟩ := List.getElem_of_mem hx
    rw [List.getElem_set] at e
    by_cases hij : i = j
    · rw [if_pos hij] at e; exact .inl e.symm
    · rw [if_neg hij] at e
      have hj' : j < g.maps.length := by simpa using hj
      refine .inr ⟨e ▸ List.getElem_mem hj', fun hxb => hij ?_⟩
      have hil : i < g.maps.length := (List.getElem?_eq_some_iff.1 hi).1
      refine (List.getElem?_inj (by simpa using hil) H.mp.nodup).1 ?_
      rw [List.getElem?_map, hi, List.getElem?_map, List.getElem?_eq_getElem hj', e]
      simp [hxb]
  have hmap : (g.maps.set i (b, es')).map (·.1) = g.maps.map (·.1) := by
    rw [List.map_set]
    apply List.ext_getElem?
    intro k
    rw [List.getElem?_set]
    split
    · rename_i e; subst e; simp [hi]; exact (List.getElem?_eq_some_iff.1 hi).1
    · rfl
  exact {
    le := H.le
    cps := H.cps
    ok := fun x v e => by
      have hxb : x.block ≠ b := fun e' => by
        have := hun x.off x.spot
        rw [← e'] at this
        have e2 : r x = none := this
        rw [e2] at e; cases e
      rw [other _ hxb]; exact H.ok x v e
    fresh := fun x v e => (H.fresh x v e).elim .inl fun q => .inr ⟨q.1, unf _ q.2⟩
    size := by rw [World.putObj_size]; exact H.size
    block := fun k hk hx => by
      rw [other k (fun e => by subst e; exact hbase.elim hx (fun h => by omega))]; exact H.block k hk hx
    unf := fun k hk hu => unf k (H.unf k hk hu)
    os := H.os, tape := H.tape, output := H.output, slots := H.slots
    own := fun x hx => by
      obtain ⟨k1, vs, k2, k3⟩ := H.own x hx
      exact ⟨k1, vs, cells _ _ _ _ k2, k3⟩
    ownB := H.ownB, nodup := H.nodup
    room := fun x hx => by
      have := H.room x hx
      unfold RoomOk at this ⊢
      split at this
      · exact this
      · obtain ⟨q1, q2, q3, q4, ⟨vs, q5, q6⟩, q7⟩ := this
        exact ⟨q1, q2, q3, q4, ⟨vs, cells _ _ _ _ q5, q6⟩, q7⟩
      · exact this
    roomB := H.roomB, roomN := H.roomN
    mp := {
      at_ := fun x hx => by
        rcases hne x hx with rfl | ⟨q1, q2⟩
        · exact ⟨arr, cl, World.putObj_heap_same hlt, h1, h2⟩
        · obtain ⟨ar, c, k1, k2, k3⟩ := H.mp.at_ x q1
          exact ⟨ar, c, by rw [other _ q2]; exact k1, k2, k3⟩
      un := fun x hx => by
        rcases hne x hx with rfl | ⟨q1, _⟩
        · exact hun
        · exact H.mp.un x q1
      base := fun x hx => by
        rcases hne x hx with rfl | ⟨q1, _⟩
        · exact hbase
        · exact H.mp.base x q1
      nodup := by rw [hmap]; exact H.mp.nodup
      obj := fun x hx => by
        obtain ⟨q1, q2, q3, q4⟩ := H.mp.obj x hx
        refine ⟨?_, q2, q3, q4⟩
        rw [other _ (fun e => by rw [e, hb] at q1; rw [← Option.some.inj q1] at q4; simp [isMapO] at q4)]
        exact q1
      objN := H.mp.objN } }

/-- A new entry. -/
theorem WL_mapPut (i : Nat) {T k e : Nat} {m x y : Operand} {ty : TypeId} {pos : String} {aft : Array Edge} {b : Nat} {es : List (Value × A)} {v : Value} {t : A} (hT : MapT E.P T k e)
    (hr : Reads g.sl true [(true, m, A.val (.map (some b))), (true, x, A.val v), (true, y, t)]) (hi : g.maps[i]? = some (b, es)) (hk : ∀ y ∈ es, KeyOk E.P k y.1) (hv : KeyOk E.P k v) (hnew : ∀ y ∈ es, y.1 ≠ v)
    (h : WL E ops rest { g with maps := g.maps.set i (b, es ++ [(v, t)]) } Q) :
    WL E ops (⟨none, .mapUpdate T m x y, ty, pos, aft, none⟩ :: rest) g Q := by
  intro a w ⟨h1, h2, r, H⟩
  have hu := hr.use rfl H.slots
  have hm : a.eval m = .map (some b) := hu (true, m, A.val (.map (some b))) (by simp) rfl
  have hx : a.eval x = v := hu (true, x, A.val v) (by simp) rfl
  have hy : t.p r (a.eval y) := hu (true, y, t) (by simp) rfl
  have hmem := List.mem_of_getElem? hi
  obtain ⟨arr, cl, hb, k1, k2⟩ := H.mp.at_ _ hmem
  obtain ⟨l, hl⟩ := hv
  have hkeys : ∀ x ∈ arr.toList, ∃ l, keyOf E.P k x.key = some l := fun z hz => by
    have : z.key ∈ es.map (·.1) := by rw [← k1]; exact List.mem_map.2 ⟨z, hz, rfl⟩
    obtain ⟨q, hq, e'⟩ := List.mem_map.1 this
    obtain ⟨l, hl⟩ := hk q hq
    exact ⟨l, by rw [← e']; exact hl⟩
  have hfind : (Instr.findKey k v arr.toList).run E.P w = .ok none w := by
    rcases hT.keyed.find w hl arr.toList hkeys with ⟨q1, _⟩ | ⟨j, e0, _, q2, q3⟩
    · exact q1
    · exfalso
      have : e0.key ∈ es.map (·.1) := by rw [← k1]; exact List.mem_map.2 ⟨e0, List.mem_of_getElem? q2, rfl⟩
      obtain ⟨q, hq, e'⟩ := List.mem_map.1 this
      exact hnew q hq (e'.trans q3)
  have hrun : (execOp a.eval ⟨none, .mapUpdate T m x y, ty, pos, aft, none⟩).run E.P w = .ok .skip (w.putObj b (.map (arr.push { key := v, val := a.eval y, born := cl }) (cl + 1))) := by
    simp [execOp, hm, hx, Instr.mapUpdate, run_underlying hT.desc, MapKept.run_getObj_map hb, hT.keyed.check w _ hl, hfind, MapKept.run_setObj_map _ hb]
    rfl
  refine wpListIn_unit rfl (by simp) (fun _ => trivial) hrun (h _ _ ⟨h1, ?_, r, ?_⟩)
  · exact h2.putOwn (fun ds e => by rw [hb] at e; cases e)
  · refine H.putMap hi (es' := es ++ [(v, t)]) ?_ ?_
    · simp [k1]
    · rw [List.map_append, Array.toList_push, List.map_append]
      exact k2.append ⟨hy, trivial⟩

/-- The very value of a struct of known cells. -/
theorem Imp.aggval {vs : List Value} : Imp (A.agg (vs.map A.val)) (A.val (.agg vs.toArray)) := fun r v ⟨us, e, k⟩ => by
  have : ∀ (l us : List Value), All2 r (l.map A.val) us → us = l := by
    intro l
    induction l with
    | nil => intro us h; cases us with
      | nil => rfl
      | cons _ _ => exact h.elim
    | cons x l ih => intro us h; cases us with
      | nil => exact h.elim
      | cons u us => rw [ih us h.2]; have : u = x := h.1; rw [this]
  have := this _ _ k
  subst e
  show _ = _
  congr 1
  rw [← this]
end

/-- The leaves of a key's type. -/
def lv (P : Program) : Nat → TypeId → Option (List TypeDesc)
  | 0, _ => none
  | d + 1, t =>
    match P.underlying t with
    | some .bool => some [.bool]
    | some (.int q) => some [.int q]
    | some (.array n e) => match lv P d e with
      | some l => if P.cellsOf e = l.length ∧ P.cellsOf t = n * l.length then some (List.replicate n l).flatten else none
      | none => none
    | some (.struct fs) => match lvf P (lv P d) 0 fs.toList with
      | some l => if P.cellsOf t = l.length ∧ fs.all (·.name != "_") = true then some l else none
      | none => none
    | _ => none
where lvf (P : Program) (rec : TypeId → Option (List TypeDesc)) : Nat → List Field → Option (List TypeDesc)
  | _, [] => some []
  | off, f :: fs => match rec f.type with
    | some l => if f.offset = off ∧ P.cellsOf f.type = l.length then match lvf P rec (off + l.length) fs with
      | some m => some (l ++ m)
      | none => none
      else none
    | none => none
def FitV : TypeDesc → Value → Prop
  | .bool, .bool _ => True
  | .int q, .int q' n => q' = q ∧ (Lit.int q n).wf = true
  | _, _ => False
def Fits : List TypeDesc → List Value → Prop
  | [], [] => True
  | d :: ds, v :: vs => FitV d v ∧ Fits ds vs
  | _, _ => False
theorem Fits.length : ∀ {ds : List TypeDesc} {vs : List Value}, Fits ds vs → ds.length = vs.length
  | [], [], _ => rfl
  | _ :: _, _ :: _, h => by simp [Fits.length h.2]
  | [], _ :: _, h => h.elim
  | _ :: _, [], h => h.elim
theorem Fits.append : ∀ {ds es : List TypeDesc} {vs us : List Value}, Fits ds vs → Fits es us → Fits (ds ++ es) (vs ++ us)
  | [], _, [], _, _, k => k
  | _ :: _, _, _ :: _, _, h, k => ⟨h.1, Fits.append h.2 k⟩
  | [], _, _ :: _, _, h, _ => h.elim
  | _ :: _, _, [], _, h, _ => h.elim
theorem Fits.split : ∀ {ds es : List TypeDesc} {vs : List Value}, Fits (ds ++ es) vs → Fits ds (vs.take ds.length) ∧ Fits es (vs.drop ds.length)
  | [], _, _, h => ⟨by simp [Fits], by simpa using h⟩
  | _ :: _, _, _ :: _, h => by
    obtain ⟨h2, h3⟩ := Fits.split h.2
    exact ⟨⟨h.1, by simpa using h2⟩, by simpa using h3⟩
  | _ :: _, _, [], h => h.elim
theorem mapM_some {S T : Type} {f : S → Option T} : ∀ {l : List S}, (∀ x ∈ l, ∃ y, f x = some y) → ∃ ys, l.mapM f = some ys
  | [], _ => ⟨[], rfl⟩
  | x :: l, h => by
    obtain ⟨y, hy⟩ := h x (by simp)
    obtain ⟨ys, hys⟩ := mapM_some (l := l) fun z hz => h z (by simp [hz])
    exact ⟨y :: ys, by simp [List.mapM_cons, hy, hys]⟩
theorem lvf_fits {P : Program} {rec : TypeId → Option (List TypeDesc)} : ∀ {fs : List Field} {off : Nat} {l : List TypeDesc} {cs : List Value}, lv.lvf P rec off fs = some l → Fits l (cs.drop off) →
    ∀ f ∈ fs, ∃ m, rec f.type = some m ∧ Fits m ((cs.drop f.offset).take (P.cellsOf f.type))
  | [], _, _, _, _, _ => fun f hf => by cases hf
  | f :: fs, off, l, cs, h, hf => by
    unfold lv.lvf at h
    split at h
    · rename_i m hm
      split at h
      · rename_i hc
        split at h
        · rename_i m2 hm2
          cases h
          obtain ⟨h1, h2⟩ := hf.split
          intro f' hf'
          rcases List.mem_cons.1 hf' with rfl | hf'
          · exact ⟨m, hm, by rw [hc.1, hc.2]; exact h1⟩
          · exact lvf_fits hm2 (by rwa [List.drop_drop] at h2) f' hf'
        · cases h
      · cases h
    · cases h
theorem fits_rep {l : List TypeDesc} : ∀ {n : Nat} {cs : List Value}, Fits (List.replicate n l).flatten cs → ∀ i, i < n → Fits l ((cs.drop (i * l.length)).take l.length)
  | 0, _, _, i, hi => by omega
  | n + 1, cs, h, i, hi => by
    rw [List.replicate_succ, List.flatten_cons] at h
    obtain ⟨h1, h2⟩ := h.split
    cases i with
    | zero => simpa using h1
    | succ i =>
      have := fits_rep h2 i (by omega)
      rwa [List.drop_drop, show l.length + i * l.length = (i + 1) * l.length from by rw [Nat.add_mul]; omega] at this
theorem keyLits_fits {P : Program} : ∀ (d : Nat) (t : TypeId) (l : List TypeDesc) (cs : List Value), lv P d t = some l → Fits l cs → ∃ L, P.keyLits d t cs = some L
  | 0, _, _, _, h, _ => by simp [lv] at h
  | d + 1, t, l, cs, h, hf => by
    unfold lv at h
    unfold Program.keyLits
    cases hu : P.underlying t with
    | none => simp [hu] at h
    | some kd =>
      cases kd
      case bool =>
        simp only [hu] at h; cases h
        match cs, hf with
        | [.bool b], _ => exact ⟨_, rfl⟩
      case int q =>
        simp only [hu] at h; cases h
        match cs, hf with
        | [.int q' n], ⟨h1, _⟩ =>
          obtain ⟨rfl, h1⟩ := h1
          exact ⟨_, by simp [h1]; rfl⟩
      case array n e =>
        simp only [hu] at h
        split at h
        · rename_i m hm
          split at h
          · rename_i hc
            cases h
            have hl : cs.length = P.cellsOf t := by rw [← hf.length, hc.2]; simp
            obtain ⟨ys, hys⟩ := mapM_some (f := fun i => P.keyLits d e ((cs.drop (i * P.cellsOf e)).take (P.cellsOf e))) (l := List.range n) fun i hi => by
              rw [hc.1]
              exact keyLits_fits d e m _ hm (fits_rep hf i (List.mem_range.1 hi))
            exact ⟨_, by simp only [hl, if_true, hys]; rfl⟩
          · cases h
        · cases h
      case struct fs =>
        simp only [hu] at h
        split at h
        · rename_i m hm
          split at h
          · rename_i hc
            cases h
            have hl : cs.length = P.cellsOf t := by rw [← hf.length, hc.1]
            obtain ⟨ys, hys⟩ := mapM_some (f := fun f : Field => P.keyLits d f.type ((cs.drop f.offset).take (P.cellsOf f.type))) (l := fs.toList) fun f hfm => by
              obtain ⟨m', h1, h2⟩ := lvf_fits hm (by simpa using hf) f hfm
              exact keyLits_fits d f.type m' _ h1 h2
            exact ⟨_, by simp only [hl, hc.2, and_self, if_true, hys]; rfl⟩
          · cases h
        · cases h
      all_goals (simp [hu] at h)
theorem keyOk_fits {P : Program} {k : TypeId} {l : List TypeDesc} {vs : List Value} (hk : P.keyType k = true) (hw : (match P.underlying k with | some (.array _ _) | some (.struct _) => true | _ => false) = true) (hl : lv P (P.types.size + 1) k = some l) (hc : P.cellsOf k = l.length) (hf : Fits l vs) : KeyOk P k (.agg vs.toArray) := by
  obtain ⟨L, hL⟩ := keyLits_fits _ _ _ _ hl hf
  have hformed : (Value.agg vs.toArray).formed P k = true := by
    unfold Value.formed
    split at hw <;> simp_all [hf.length]
  unfold KeyOk keyOf
  split at hw <;> simp_all [Value.cells]
end Go.L
/-! A function as an operand. -/
namespace Go.L
open Go Go.RowKit
theorem Imp.cl0 {f : FuncId} : Imp (A.val (.func (.func f) #[] #[])) (A.cl f []) := fun _ _ e => by cases e; exact ⟨[], rfl, trivial⟩
theorem F1c {av : List (Nat × Bool × A)} {c b : Bool} {f : FuncId} : Read1 av c (b, .func f, A.cl f []) := fun _ _ => ⟨[], rfl, trivial⟩
end Go.L
/-! Regions that draw their order, with variables made among the reads. -/
namespace Go.L
open Go Go.RowKit

/-- A variable that is made: its operation, its slot, its type, its zeros. -/
structure Al where
  i : Nat
  d : Nat
  T : Nat
  zs : List Value

def anyPtr : A := ⟨fun _ v => ∃ b, v = .pointer (some ⟨b, 0, none⟩), fun _ h => h⟩

def AlStep (E : Env) (o : Oper) (x : Al) : Prop := o.dst = some x.d ∧ Nat.ble (x.d + 1) E.n = true ∧ o.guard = none ∧ o.op = .alloc x.T ∧ TZ E.P x.T x.zs

def ChainA (E : Env) (ops : Array Oper) (own : OC) : Nat → List Oper → List (Nat × Bool × A) → List Al → (List (Nat × Bool × A) → List Al → Prop) → Prop
  | _, [], av, al, K => K av al
  | i, o :: rest, av, al, K => (∃ f, Step1 E ops own av o f ∧ ChainA E ops own (i + 1) rest (f :: av) al K) ∨
      ∃ d T zs, AlStep E o ⟨i, d, T, zs⟩ ∧ ChainA E ops own (i + 1) rest ((d, true, anyPtr) :: av) (⟨i, d, T, zs⟩ :: al) K

theorem ChainA_nil {E : Env} {ops : Array Oper} {own : OC} {i : Nat} {av : List (Nat × Bool × A)} {al : List Al} {K : List (Nat × Bool × A) → List Al → Prop} (h : K av al) : ChainA E ops own i [] av al K := h
theorem ChainA_cons {E : Env} {ops : Array Oper} {own : OC} {i : Nat} {o : Oper} {rest : List Oper} {av : List (Nat × Bool × A)} {al : List Al} {K : List (Nat × Bool × A) → List Al → Prop} {f : Nat × Bool × A} (h : Step1 E ops own av o f) (k : ChainA E ops own (i + 1) rest (f :: av) al K) :
    ChainA E ops own i (o :: rest) av al K := .inl ⟨f, h, k⟩
theorem ChainA_al {E : Env} {ops : Array Oper} {own : OC} {i d T : Nat} {zs : List Value} {ty : TypeId} {pos : String} {aft : Array Edge} {rest : List Oper} {av : List (Nat × Bool × A)} {al : List Al} {K : List (Nat × Bool × A) → List Al → Prop} (hz : TZ E.P T zs) (hd : Nat.ble (d + 1) E.n = true) (k : ChainA E ops own (i + 1) rest ((d, true, anyPtr) :: av) (⟨i, d, T, zs⟩ :: al) K) :
    ChainA E ops own i (⟨some d, .alloc T, ty, pos, aft, none⟩ :: rest) av al K := .inr ⟨d, T, zs, ⟨rfl, hd, rfl, rfl, hz⟩, k⟩

/-- The blocks come to be known. -/
def AlK : List Al → Ctx → (Ctx → Prop) → Prop
  | [], g, K => K g
  | x :: al, g, K => ∀ b, AlK al { g with sl := (x.d, true, A.val (.pointer (some ⟨b, 0, none⟩))) :: g.sl, own := (b, x.T, x.zs.map A.val) :: g.own } K

theorem AlK_nil {g : Ctx} {K : Ctx → Prop} (h : K g) : AlK [] g K := h
theorem AlK_cons {x : Al} {al : List Al} {g : Ctx} {K : Ctx → Prop} (h : ∀ b, AlK al { g with sl := (x.d, true, A.val (.pointer (some ⟨b, 0, none⟩))) :: g.sl, own := (b, x.T, x.zs.map A.val) :: g.own } K) : AlK (x :: al) g K := h
theorem ChainA.split {E : Env} {ops : Array Oper} {own : OC} : ∀ {l : List Oper} {k : Nat} {av : List (Nat × Bool × A)} {al : List Al} {K : List (Nat × Bool × A) → List Al → Prop}, ChainA E ops own k l av al K →
    ∃ (fs : List (Nat × Bool × A)) (as : List Al), fs.length = l.length ∧ K (fs.reverse ++ av) (as ++ al) ∧ (∀ (i : Nat) o f, l[i]? = some o → fs[i]? = some f → Step1 E ops own ((fs.take i).reverse ++ av) o f ∨ ∃ x ∈ as, x.i = k + i ∧ AlStep E o x ∧ f = (x.d, true, anyPtr)) ∧
      (∀ x ∈ as, k ≤ x.i ∧ x.i < k + l.length) ∧ (∀ x ∈ as, ∃ o, l[x.i - k]? = some o ∧ AlStep E o x ∧ fs[x.i - k]? = some (x.d, true, anyPtr)) ∧ (as.map (·.i)).Nodup
  | [], k, av, al, K, h => ⟨[], [], rfl, h, by simp, by simp, by simp, by simp⟩
  | o :: l, k, av, al, K, h => by
    rcases h with ⟨f, h1, h2⟩ | ⟨d, T, zs, h1, h2⟩
    · obtain ⟨fs, as, hl, hK, hs, hr, hi, hn⟩ := ChainA.split h2
      refine ⟨f :: fs, as, by simp [hl], by simpa using hK, ?_, fun x hx => ?_, fun x hx => ?_, hn⟩
      · intro i o' f' ho hf
        cases i with
        | zero => simp at ho hf; subst ho; subst hf; exact .inl (by simpa using h1)
        | succ i =>
          rcases hs i o' f' (by simpa using ho) (by simpa using hf) with q | ⟨x, q1, q2, q3⟩
          · exact .inl (by simpa using q)
          · exact .inr ⟨x, q1, by omega, q3⟩
      · have := hr x hx; simp only [List.length_cons]; omega
      · obtain ⟨o', q1, q2, q3⟩ := hi x hx
        have := hr x hx
        exact ⟨o', by rw [show x.i - k = (x.i - (k + 1)) + 1 from by omega]; simpa using q1, q2, by rw [show x.i - k = (x.i - (k + 1)) + 1 from by omega]; simpa using q3⟩
    · obtain ⟨fs, as, hl, hK, hs, hr, hi, hn⟩ := ChainA.split h2
      refine ⟨(d, true, anyPtr) :: fs, as ++ [⟨k, d, T, zs⟩], by simp [hl], by simpa using hK, ?_, fun x hx => ?_, fun x hx => ?_, ?_⟩
      · intro i o' f' ho hf
        cases i with
        | zero => simp at ho hf; subst ho; subst hf; exact .inr ⟨⟨k, d, T, zs⟩, by simp, rfl, h1, rfl⟩
        | succ i =>
          rcases hs i o' f' (by simpa using ho) (by simpa using hf) with q | ⟨x, q1, q2, q3⟩
          · exact .inl (by simpa using q)
          · exact .inr ⟨x, by simp [q1], by omega, q3⟩
      · rcases List.mem_append.1 hx with hx | hx
        · have := hr x hx; simp only [List.length_cons]; omega
        · simp at hx; subst hx; simp
      · rcases List.mem_append.1 hx with hx | hx
        · obtain ⟨o', q1, q2, q3⟩ := hi x hx
          have := hr x hx
          exact ⟨o', by rw [show x.i - k = (x.i - (k + 1)) + 1 from by omega]; simpa using q1, q2, by rw [show x.i - k = (x.i - (k + 1)) + 1 from by omega]; simpa using q3⟩
        · simp at hx; subst hx; exact ⟨o, by simp, h1, by simp⟩
      · rw [List.map_append, List.nodup_append]
        refine ⟨hn, by simp, fun a ha b hb e => ?_⟩
        obtain ⟨x, hx, rfl⟩ := List.mem_map.1 ha
        have := hr x hx
        simp at hb; omega

theorem AlK.get {K : Ctx → Prop} : ∀ {al : List Al} {g : Ctx}, AlK al g K → ∀ blk : Nat → Nat, ∃ sl own, K { g with sl := sl, own := own } ∧ sl = (al.map fun x => (x.d, true, A.val (.pointer (some ⟨blk x.i, 0, none⟩)))).reverse ++ g.sl ∧ own = (al.map fun x => (blk x.i, x.T, x.zs.map A.val)).reverse ++ g.own
  | [], g, h, blk => ⟨_, _, h, rfl, rfl⟩
  | x :: al, g, h, blk => by
    obtain ⟨sl, own, q1, q2, q3⟩ := AlK.get (h (blk x.i)) blk
    exact ⟨sl, own, q1, by rw [q2]; simp, by rw [q3]; simp⟩

/-- The variables that have been made. -/
def ownAl (as : List Al) (S : Array Bool) (blk : Nat → Nat) : Own := (as.filter fun x => S.getD x.i false).map fun x => (blk x.i, x.T, x.zs.map A.val)

structure PStateA (E : Env) (g : Ctx) (l : List Oper) (as : List Al) (m : Nat) (fs : List (Nat × Bool × A)) (S : Array Bool) (a : Act) (w : World) : Prop where
  size : S.size = l.length
  tail : ∀ i, m ≤ i → S.getD i false = false
  closed : ∀ (i : Nat) o, l[i]? = some o → S.getD i false = true → ∀ j ∈ edgesOf o, S.getD j false = true
  tmps : a.tmps.size = E.n
  defers : Marks E w a.defers
  at_ : ∃ (r : Rho) (blk : Nat → Nat), HoldsAt E { g with sl := [], own := ownAl as S blk ++ g.own } r a w ∧ (∀ x ∈ as, S.getD x.i false = true → a.tmps.getD x.d undef = .pointer (some ⟨blk x.i, 0, none⟩)) ∧ (∀ s c x, look g.sl s = some (c, x) → (∀ f ∈ fs, f.1 ≠ s) → Fact r a (s, c, x)) ∧ (∀ (i : Nat) f, fs[i]? = some f → S.getD i false = true → Fact r a f)

theorem W_drawA {E : Env} {g : Ctx} {Q : Exit → Act → World → Prop} {id : Nat} {l : List Oper} (m : Nat) (hmix : E.P.follows .mixedOrders = true) (hm : Nat.ble m l.length = true) (hok : drawOk l m = true)
    (h : ChainA E l.toArray g.oc 0 (l.take m) g.sl [] fun av al => AlK al { g with sl := av } fun g' => WL E l.toArray (l.drop m) g' Q) : W E (.region id l.toArray true) g Q := by
  have hm := Nat.le_of_ble_eq_true hm
  have D := drawOk_spec hok
  obtain ⟨fs, as, hfl, hK, hst, hri, hai, hnd⟩ := h.split
  rw [List.append_nil] at hK
  have hfl : fs.length = m := by rw [hfl]; simp [hm]
  have hstep : ∀ (i : Nat) o f, l[i]? = some o → i < m → fs[i]? = some f → Step1 E l.toArray g.oc ((fs.take i).reverse ++ g.sl) o f ∨ ∃ x ∈ as, x.i = 0 + i ∧ AlStep E o x ∧ f = (x.d, true, anyPtr) := fun i o f ho hi hf => hst i o f (by simp [hi, ho]) hf
  have hdst : ∀ (i : Nat) o f, l[i]? = some o → i < m → fs[i]? = some f → o.dst = some f.1 := fun i o f ho hi hf => (hstep i o f ho hi hf).elim (fun q => q.1) fun ⟨x, _, _, q, e⟩ => by rw [e]; exact q.1
  have getop : ∀ i, i < m → ∃ o f, l[i]? = some o ∧ fs[i]? = some f := fun i hi =>
    ⟨l[i]'(by omega), fs[i]'(by omega), List.getElem?_eq_getElem _, List.getElem?_eq_getElem _⟩
  intro a w k
  refine wpIn_region_any hmix ?_
  have key : ∀ (u : Nat) (S : Array Bool) (a : Act) (w : World), PStateA E g l as m fs S a w → ((List.range m).filter fun i => !S.getD i false).length = u →
      wpAnyIn (fz E.rnd) 9 E.P .any l.toArray Q (u + (l.length - m)) S a w := by
    intro u
    induction u with
    | zero =>
      intro S a w p hu
      have hall : ∀ i, i < m → S.getD i false = true := fun i hi => by
        have := List.length_eq_zero_iff.1 hu
        have := List.filter_eq_nil_iff.1 this i (List.mem_range.2 hi)
        simpa using this
      have hSi : ∀ i, S.getD i false = decide (i < m) := fun i => by
        rcases Nat.lt_or_ge i m with q | q
        · rw [hall i q]; simp [q]
        · rw [p.tail i q]; simp; omega
      rw [Nat.zero_add]
      refine tail_any D _ m S a w (by omega) (Nat.le_refl _) p.size hSi ?_
      obtain ⟨r, blk, H, hbk, hg, hf⟩ := p.at_
      have hasS : ∀ x ∈ as, S.getD x.i false = true := fun x hx => by have := hri x hx; simp [hm] at this; exact hall _ (by omega)
      have hfil : ownAl as S blk = as.map fun x => (blk x.i, x.T, x.zs.map A.val) := by
        unfold ownAl; rw [List.filter_eq_self.2 hasS]
      rw [hfil] at H
      have H1 := H.reown (own' := (as.map fun x => (blk x.i, x.T, x.zs.map A.val)).reverse ++ g.own) (fun x hx => by simpa using hx) (by
        have := H.nodup
        rw [List.map_append] at this ⊢
        rw [List.nodup_append] at this ⊢
        refine ⟨?_, this.2.1, fun a ha => this.2.2 a (by simpa using ha)⟩
        exact (List.Perm.nodup_iff ((List.reverse_perm _).map _)).2 this.1)
      obtain ⟨sl', own', q1, e1, e2⟩ := hK.get blk
      subst e1; subst e2
      refine q1 a w ⟨p.tmps, p.defers, r, { H1 with slots := ?_ }⟩
      intro s c x e
      rcases look_append e with q | ⟨e, _⟩
      · obtain ⟨y, hy, ey⟩ := List.mem_map.1 (List.mem_reverse.1 q)
        cases ey
        exact ⟨fun _ => hbk y hy (hasS y hy), fun k => by cases k⟩
      rcases look_append e with q | ⟨q1, q2⟩
      · obtain ⟨i, hi, he⟩ := List.getElem_of_mem (List.mem_reverse.1 q)
        exact hf i (s, c, x) (by rw [List.getElem?_eq_getElem hi, he]) (hall i (by omega))
      · exact hg s c x q1 (fun f hf => q2 f (List.mem_reverse.2 hf))
    | succ u ih =>
      intro S a w p hu
      rw [show u + 1 + (l.length - m) = (u + (l.length - m)) + 1 from by omega]
      have hex : ∃ i, i < m ∧ S.getD i false = false := by
        have hne : ((List.range m).filter fun i => !S.getD i false) ≠ [] := fun e => by rw [e] at hu; simp at hu
        obtain ⟨i, hi⟩ := List.exists_mem_of_ne_nil _ hne
        obtain ⟨h1, h2⟩ := List.mem_filter.1 hi
        exact ⟨i, List.mem_range.1 h1, by simpa using h2⟩
      obtain ⟨i0, ⟨hi0, hS0⟩, hmin⟩ := least hex
      have hready : i0 ∈ Region.ready .any l.toArray S := by
        have ho : l[i0]? = some (l[i0]'(by omega)) := List.getElem?_eq_getElem _
        refine ready_iff.2 ⟨getD_true_of_false hS0 (by rw [p.size]; omega), _, ho, fun j hj => ?_⟩
        have hlt := D.lt i0 _ ho j hj
        cases hSj : S.getD j false with
        | true => rfl
        | false => have := hmin j ⟨by omega, hSj⟩; omega
      refine ⟨fun e => by rw [e] at hready; simp at hready, fun i hi => ?_⟩
      obtain ⟨h1, o, ho, hr⟩ := ready_iff.1 hi
      obtain ⟨hSi, hilt⟩ := getD_false_of_true h1
      rw [p.size] at hilt
      have him : i < m := by
        rcases Nat.lt_or_ge i m with q | q
        · exact q
        · exfalso
          have := masks_closed (fun k => S.getD k false) l [] 0 rfl (by simp) (by simpa using D.lt) (by
            intro i' o' ho' hSi' j' hj'
            simp only [Nat.zero_add] at hSi'
            exact p.closed i' o' ho' hSi' j' hj') i o ho hr i0 (by simpa using D.tail i q hilt i0 (by omega))
          rw [hS0] at this; cases this
      obtain ⟨_, f, _, hf⟩ := getop i him
      have hs := hstep i o f ho him hf
      obtain ⟨r, blk, H, hbk, hg, hfacts⟩ := p.at_
      have H0 : HoldsAt E { g with sl := [] } r a w := H.reown (own' := g.own) (fun x hx => by simp [hx]) (by have := H.nodup; rw [List.map_append] at this; exact (List.nodup_append.1 this).2.1)
      have hsl : ∀ s ∈ o.looksAt l.toArray, ∀ c x, look ((fs.take i).reverse ++ g.sl) s = some (c, x) → (c = true → x.p r (a.tmps.getD s undef)) ∧ (c = false → a.tmps.getD s undef = undef) := by
        intro s hsm c x e
        rw [looks_eq] at hsm
        rcases look_append e with q | ⟨q1, q2⟩
        · obtain ⟨j, hj, he⟩ := List.getElem_of_mem (List.mem_reverse.1 q)
          have hj' : j < i := by simp at hj; omega
          have hfj : fs[j]? = some (s, c, x) := by
            rw [← he, List.getElem_take]
            exact List.getElem?_eq_getElem _
          obtain ⟨oj, fj, hoj, hfj'⟩ := getop j (by omega)
          rw [hfj] at hfj'
          cases hfj'
          have hd := hdst j oj _ hoj (by omega) hfj
          have hk := D.look i o ho him s hsm j oj hoj (by omega) hd
          exact hfacts j (s, c, x) hfj (hr j hk.2)
        · refine hg s c x q1 fun f' hf' e' => ?_
          obtain ⟨j, hj, he⟩ := List.getElem_of_mem hf'
          have hfj : fs[j]? = some f' := by rw [List.getElem?_eq_getElem hj, he]
          obtain ⟨oj, fj, hoj, hfj'⟩ := getop j (by omega)
          have hd := hdst j oj f' hoj (by omega) hfj
          rw [e'] at hd
          have hk := D.look i o ho him s hsm j oj hoj (by omega) hd
          refine q2 f' (List.mem_reverse.2 ?_) e'
          exact List.mem_of_getElem? (i := j) (by rw [List.getElem?_take]; simp [hk.1, hfj])
      have hfl' : f.1 < E.n ∧ (f.2.1 = true ∨ f.2.1 = false) := by
        refine ⟨?_, by cases f.2.1 <;> simp⟩
        rcases hs with q | ⟨x, _, _, q, e⟩
        · exact Nat.le_of_ble_eq_true q.2.1
        · rw [e]; exact Nat.le_of_ble_eq_true q.2.1
      have adv : ∀ v s w' blk', Marks E w' a.defers → HoldsAt E { g with sl := [], own := ownAl as (S.setIfInBounds i true) blk' ++ g.own } s (a.put (some f.1) v) w' → r.le s → (f.2.1 = true → f.2.2.p s v) → (f.2.1 = false → v = undef) →
          (∀ x ∈ as, (S.setIfInBounds i true).getD x.i false = true → (a.put (some f.1) v).tmps.getD x.d undef = .pointer (some ⟨blk' x.i, 0, none⟩)) → wpAnyIn (fz E.rnd) 9 E.P .any l.toArray Q (u + (l.length - m)) (S.setIfInBounds i true) (a.put (some f.1) v) w' := by
        intro v s w' blk' hmk H' hle hv hun hbk'
        refine ih _ _ _ ?_ ?_
        · have hlt : f.1 < a.tmps.size := by rw [p.tmps]; exact hfl'.1
          refine ⟨by simpa using p.size, ?_, ?_, by rw [size_put]; exact p.tmps, by rw [defers_put]; exact hmk, s, blk', H', hbk', ?_, ?_⟩
          · intro j hj
            rw [getD_set (by rw [p.size]; omega), p.tail j hj]
            simp; omega
          · intro j oj hoj hSj k' hk'
            rw [getD_set (by rw [p.size]; omega)] at hSj ⊢
            rcases Bool.or_eq_true _ _ ▸ hSj with q | q
            · have : j = i := by simpa using q
              subst this
              rw [ho] at hoj; cases hoj
              rw [hr k' hk']; simp
            · rw [p.closed j oj hoj q k' hk']; simp
          · intro s' c x e hne
            have hk := hg s' c x e hne
            have hne' : f.1 ≠ s' := hne f (List.mem_of_getElem? hf)
            unfold Fact at *
            simp only [getD_put_ne hne']
            exact ⟨fun hc => x.mono hle (hk.1 hc), hk.2⟩
          · intro j f' hfj hSj
            rw [getD_set (by rw [p.size]; omega)] at hSj
            by_cases hji : j = i
            · subst hji
              rw [hf] at hfj; cases hfj
              unfold Fact
              rw [getD_put_same hlt]
              exact ⟨hv, hun⟩
            · have hSj' : S.getD j false = true := by simpa [hji] using hSj
              have hk := hfacts j f' hfj hSj'
              have hjm : j < m := by rw [← hfl]; exact (List.getElem?_eq_some_iff.1 hfj).1
              obtain ⟨oj, _, hoj, _⟩ := getop j hjm
              have hne' : f.1 ≠ f'.1 := fun e' => D.dst i o ho him j oj hoj hjm hji (by rw [hdst j oj f' hoj hjm hfj, hdst i o f ho him hf, e'])
              unfold Fact at *
              simp only [getD_put_ne hne']
              exact ⟨fun hc => f'.2.2.mono hle (hk.1 hc), hk.2⟩
        · have hfil : ((List.range m).filter fun j => !(S.setIfInBounds i true).getD j false) = ((List.range m).filter fun j => !S.getD j false).erase i := by
            rw [List.Nodup.erase_eq_filter (List.Nodup.sublist List.filter_sublist List.nodup_range), List.filter_filter]
            refine List.filter_congr fun j _ => ?_
            rw [getD_set (by rw [p.size]; omega)]
            by_cases hji : j = i <;> simp [hji]
          rw [hfil, List.length_erase_of_mem (List.mem_filter.2 ⟨List.mem_range.2 him, by simp [hSi]⟩), hu]
          rfl
      have hfd : ∀ x ∈ as, x.i ≠ i → f.1 ≠ x.d := fun x hx hne e' => by
        obtain ⟨o', q1, q2, q3⟩ := hai x hx
        have hxi := hri x hx
        simp [hm] at hxi
        rw [Nat.sub_zero, List.getElem?_take, if_pos hxi] at q1
        exact D.dst i o ho him x.i o' q1 hxi hne (by rw [hdst i o f ho him hf, q2.1, e'])
      unfold wpOpIn
      simp only [List.getElem?_toArray, ho]
      by_cases hx : ∃ x ∈ as, x.i = i
      · obtain ⟨x, hx, hxi⟩ := hx
        obtain ⟨o', q1, q2, q3⟩ := hai x hx
        rw [Nat.sub_zero, hxi, List.getElem?_take, if_pos him, ho] at q1
        cases q1
        rw [Nat.sub_zero, hxi, hf] at q3
        cases q3
        obtain ⟨a1, a2, a3, a4, a5⟩ := q2
        obtain ⟨z, hzc, hzr⟩ := a5.run
        have hw : Region.wanted o (yielded l.toArray a.tmps) = true := by simp [Region.wanted, a3]
        rw [if_pos hw]
        have hrun : (execOp a.eval o).run E.P w = .ok (.value (.pointer (some ⟨w.heap.size, 0, none⟩))) (w.alloc (.cells z.cells x.T)) := by
          simp [execOp, a4, Instr.alloc, hzr, run_newVar]
        unfold Oper.wpIn
        refine ⟨fun f _ => trivial, ?_⟩
        rw [Oper.semAt_eq _ _ _ (by rw [a4]; simp), hrun]
        simp only [Oper.uponIn, a1]
        have gr : Grow r w r (w.alloc (.cells z.cells x.T)) := Grow.same H.ok ((Below.refl _ _).alloc (Nat.le_refl _) _)
        have H' := H.allocOwn z.cells x.T (cells := x.zs.map A.val) (by rw [hzc]; exact All2.vals x.zs)
        have asnd : as.Nodup := List.Pairwise.of_map _ (fun a b h e => h (by rw [e])) hnd
        have same : ∀ y ∈ as, y.i = i → y = x := fun y hy e => by
          obtain ⟨j1, h1, e1⟩ := List.getElem_of_mem hy
          obtain ⟨j2, h2, e2⟩ := List.getElem_of_mem hx
          have : j1 = j2 := (List.getElem?_inj (by simpa using h1) hnd).1 (by rw [List.getElem?_map, List.getElem?_map, List.getElem?_eq_getElem h1, List.getElem?_eq_getElem h2, e1, e2]; simp [e, hxi])
          subst this; rw [← e1, e2]
        let blk' : Nat → Nat := fun j => if j = i then w.heap.size else blk j
        have hperm : (ownAl as (S.setIfInBounds i true) blk').Perm ((w.heap.size, x.T, x.zs.map A.val) :: ownAl as S blk) := by
          have p1 : (as.filter fun y => (S.setIfInBounds i true).getD y.i false).Perm (x :: as.filter fun y => S.getD y.i false) := by
            refine (List.perm_ext_iff_of_nodup (asnd.sublist List.filter_sublist) ?_).2 fun y => ?_
            · rw [List.nodup_cons]
              exact ⟨fun hm => (by have := (List.mem_filter.1 hm).2; rw [hxi, hSi] at this; cases this), asnd.sublist List.filter_sublist⟩
            · rw [List.mem_filter, List.mem_cons, List.mem_filter, getD_set (by rw [p.size]; omega)]
              constructor
              · intro ⟨h1, h2⟩
                by_cases hyi : y.i = i
                · exact .inl (same y h1 hyi)
                · exact .inr ⟨h1, by simpa [hyi] using h2⟩
              · rintro (rfl | ⟨h1, h2⟩)
                · exact ⟨hx, by simp [hxi]⟩
                · exact ⟨h1, by simp only [h2, Bool.or_true]⟩
          have p2 := p1.map fun y => (blk' y.i, y.T, y.zs.map A.val)
          unfold ownAl
          refine p2.trans (List.Perm.of_eq ?_)
          rw [List.map_cons]
          congr 1
          · simp [blk', hxi]
          · refine List.map_congr_left fun y hy => ?_
            have hyi : y.i ≠ i := fun e => by have := (List.mem_filter.1 hy).2; rw [e, hSi] at this; cases this
            simp [blk', hyi]
        have H2 := H'.reown (own' := ownAl as (S.setIfInBounds i true) blk' ++ g.own) (fun y hy => by
          rcases List.mem_append.1 hy with hy | hy
          · rcases List.mem_cons.1 (hperm.mem_iff.1 hy) with h | h <;> simp [h]
          · simp [hy]) (by
          have hn := H'.nodup
          have := (hperm.append_right g.own).map (·.1)
          exact (this.nodup_iff).2 (by simpa using hn))
        refine adv _ r _ blk' (p.defers.grow H gr) { H2 with slots := fun _ _ _ e => by cases e } r.le_refl (fun _ => ⟨_, rfl⟩) (fun k => by cases k) fun y hy hSy => ?_
        have hlt : x.d < a.tmps.size := by rw [p.tmps]; exact Nat.le_of_ble_eq_true a2
        by_cases hyi : y.i = i
        · rw [same y hy hyi]
          show (a.put (some x.d) _).tmps.getD x.d undef = _
          rw [getD_put_same hlt]
          simp [blk', hxi]
        · rw [getD_put_ne (hfd y hy hyi)]
          rw [getD_set (by rw [p.size]; omega)] at hSy
          rw [hbk y hy (by simpa [hyi] using hSy)]
          simp [blk', hyi]
      · have hs : Step1 E l.toArray g.oc ((fs.take i).reverse ++ g.sl) o f := hs.elim (fun q => q) fun ⟨x, h1, h2, _⟩ => absurd ⟨x, h1, by omega⟩ hx
        have hown : ownAl as (S.setIfInBounds i true) blk = ownAl as S blk := by
          unfold ownAl
          congr 1
          refine List.filter_congr fun y hy => ?_
          rw [getD_set (by rw [p.size]; omega)]
          simp [show y.i ≠ i from fun e => hx ⟨y, hy, e⟩]
        have step := step_sem (Q := Q) hs H.ok H0.oc p.tmps hsl (K := wpAnyIn (fz E.rnd) 9 E.P .any l.toArray Q (u + (l.length - m)) (S.setIfInBounds i true)) (fun v s w' gr hv hun => by
          refine adv v s w' blk (p.defers.grow H gr) (by rw [hown]; exact H.grow gr (fun _ _ _ e => by cases e)) gr.le hv hun fun y hy hSy => ?_
          have hyi : y.i ≠ i := fun e => hx ⟨y, hy, e⟩
          rw [getD_put_ne (hfd y hy hyi)]
          rw [getD_set (by rw [p.size]; omega)] at hSy
          exact hbk y hy (by simpa [hyi] using hSy))
        split
        · rename_i hw
          rw [if_pos hw] at step
          exact step
        · rename_i hw
          rw [if_neg hw] at step
          exact step
  obtain ⟨k1, k2, r, H⟩ := k
  have k2 : Marks E { w with drawn := w.drawn + 1 } a.defers := k2.grow H (Grow.same H.ok ((Below.refl _ _).drew))
  have hcount : ((List.range m).filter fun i => !(Array.replicate l.toArray.size false).getD i false).length = m := by
    rw [List.filter_eq_self.2 (fun i hi => ?_)]
    · simp
    · rw [getD_replicate]; rfl
  have hdrew : HoldsAt E { g with sl := [] } r a { w with drawn := w.drawn + 1 } := by
    have hgr : Grow r w r w.drew := Grow.same H.ok ((Below.refl _ _).drew)
    have := H.grow hgr (a' := a) H.slots
    exact { this with slots := fun _ _ _ e => by cases e }
  have fin := key m (Array.replicate l.toArray.size false) a { w with drawn := w.drawn + 1 } ⟨by simp, fun i _ => getD_replicate _ i, (by intro i o _ hS; rw [getD_replicate] at hS; cases hS), k1, k2, r, fun _ => 0, (by rw [show ownAl as (Array.replicate l.toArray.size false) (fun _ => 0) = [] from by unfold ownAl; rw [List.filter_eq_nil_iff.2 (fun x _ => by rw [getD_replicate]; simp)]; rfl]; exact hdrew), (by intro x _ hS; rw [getD_replicate] at hS; cases hS), fun s c x e _ => H.slots s c x e, (by intro i f _ hS; rw [getD_replicate] at hS; cases hS)⟩ hcount
  rw [show m + (l.length - m) = l.toArray.size from by simp; omega] at fin
  exact fin
end Go.L
/-! More rules on rooms and maps. -/
namespace Go.L
open Go Go.RowKit
theorem Pure.agg {l : List A} (h : AllPure l) : Pure (A.agg l) := fun r s v ⟨vs, e, k⟩ => ⟨vs, e, AllPure.all2 h k⟩
theorem Pure.aggv {vs : List Value} : Pure (A.agg (vs.map A.val)) := Pure.agg (AllPure.vals vs)
section
variable {E : Env} {g : Ctx} {Q : Exit → Act → World → Prop} {ops : Array Oper} {rest l : List Oper}
theorem W_cut2 {c c2 : Code} {T : Type} (ks io ir im : List Nat) (q : T → Prop) (J : T → List (Nat × Bool × A)) (M : T → Mem)
    (h1 : W E c g (Exit.then (fun a w => ∃ x, q x ∧ Holds E ⟨J x ++ keep g.sl ks, (M x).own ++ others io g.own, (M x).rooms ++ others ir g.rooms, (M x).maps ++ others im g.maps, g.objs, g.cps⟩ a w) Q))
    (h2 : ∀ x, q x → W E c2 ⟨J x ++ keep g.sl ks, (M x).own ++ others io g.own, (M x).rooms ++ others ir g.rooms, (M x).maps ++ others im g.maps, g.objs, g.cps⟩ Q) : W E c g (Exit.then (c2.wpIn (fz E.rnd) 9 E.P Q) Q) := by
  intro a w k
  refine wpIn_mono (h1 a w k) ?_
  intro e a' w' k'
  cases e with
  | normal => obtain ⟨x, hq, hH⟩ := k'; exact h2 x hq a' w' hH
  | _ => exact k'
/-- No cells as a room. -/
theorem WL_roomNil0 (e k : Nat) (h : WL E ops l { g with rooms := (.slice none 0 0, e, k) :: g.rooms } Q) : WL E ops l g Q := by
  intro a w ⟨h1, h2, r, H⟩
  refine h a w ⟨h1, h2, r, ?_⟩
  exact { H with
    room := fun x hx => by
      rcases List.mem_cons.1 hx with rfl | hx
      · unfold RoomOk; exact ⟨rfl, rfl⟩
      · exact H.room x hx
    roomB := fun x hx b e' => by
      rcases List.mem_cons.1 hx with rfl | hx
      · cases e'
      · exact H.roomB x hx b e'
    roomN := by simpa [List.filterMap_cons, roomBlock] using H.roomN }
theorem slv_nil {S : Type} {k : Nat} {f : S → List A} : Imp (A.val (.slice none 0 0)) (A.slv (.slice none 0 0) k f []) := fun r v h => ⟨h, Imp.nil r v h⟩
/-- A map from values to numbers. -/
def ints (es : List (Value × Int)) : List (Value × A) := es.map fun e => (e.1, A.int e.2)
theorem ints_keys (es : List (Value × Int)) : (ints es).map (·.1) = es.map (·.1) := by simp [ints]
theorem ints_ok {p : Value → Prop} {es : List (Value × Int)} (h : ∀ e ∈ es, p e.1) : ∀ y ∈ ints es, p y.1 := fun y hy => by
  obtain ⟨e, he, rfl⟩ := List.mem_map.1 hy; exact h e he
theorem ints_snoc (es : List (Value × Int)) (v : Value) (n : Int) : ints (es ++ [(v, n)]) = ints es ++ [(v, A.int n)] := by simp [ints]
theorem WL_lookupI (i : Nat) {d T k e : Nat} {m x : Operand} {ty : TypeId} {pos : String} {aft : Array Edge} {b : Nat} {es : List (Value × Int)} {v : Value} (hT : MapT E.P T k e) (hz : ∀ w, (zeroValue e).run E.P w = .ok (.int .i64 0) w)
    (hr : Reads g.sl true [(true, m, A.val (.map (some b))), (true, x, A.val v)]) (hi : g.maps[i]? = some (b, ints es)) (hk : ∀ y ∈ es, KeyOk E.P k y.1) (hn : (es.map (·.1)).Nodup) (hv : KeyOk E.P k v) (hd : Nat.ble (d + 1) E.n = true)
    (h : WL E ops rest { g with sl := (d, true, A.tup [A.int ((mfind es v).getD 0), A.bool (mfind es v).isSome]) :: g.sl } Q) :
    WL E ops (⟨some d, .lookup T m x true, ty, pos, aft, none⟩ :: rest) g Q := by
  refine WL_lookup i hT hz hr hi (ints_ok hk) (by rw [ints_keys]; exact hn) hv hd ?_
  unfold ints
  rw [mfind_map]
  cases hm : mfind es v with
  | none => rw [hm] at h; exact h
  | some u => rw [hm] at h; exact h
theorem WL_mapPutI (i : Nat) {T k e : Nat} {m x y : Operand} {ty : TypeId} {pos : String} {aft : Array Edge} {b : Nat} {es : List (Value × Int)} {v : Value} {n : Int} (hT : MapT E.P T k e)
    (hr : Reads g.sl true [(true, m, A.val (.map (some b))), (true, x, A.val v), (true, y, A.int n)]) (hi : g.maps[i]? = some (b, ints es)) (hk : ∀ y ∈ es, KeyOk E.P k y.1) (hv : KeyOk E.P k v) (hnew : mfind es v = none)
    (h : WL E ops rest { g with maps := g.maps.set i (b, ints (es ++ [(v, n)])) } Q) :
    WL E ops (⟨none, .mapUpdate T m x y, ty, pos, aft, none⟩ :: rest) g Q := by
  refine WL_mapPut i hT hr hi (ints_ok hk) hv (fun y hy e' => ?_) (by rw [← ints_snoc]; exact h)
  obtain ⟨q, hq, rfl⟩ := List.mem_map.1 hy
  have : ∀ l : List (Value × Int), q ∈ l → mfind l v = none → False := by
    intro l
    induction l with
    | nil => intro hq; cases hq
    | cons c l ih =>
      intro hq hn
      obtain ⟨k, t⟩ := c
      unfold mfind at hn
      split at hn
      · cases hn
      · rename_i hne
        rcases List.mem_cons.1 hq with h | h
        · subst h; exact hne e'
        · exact ih h hn
  exact this es hq hnew
end
end Go.L
/-! Regions that draw their order, with moves that may come late: they are taken first. -/
namespace Go.L
open Go Go.RowKit

/-- The prefix of m operations may go in any order, those of 'late' even among the tail; the rest is forced. -/
def drawOkL (l : List Oper) (m : Nat) (late : List Nat) : Bool :=
  let ds := (l.take m).map (·.dst)
  let ms := masksFrom l []
  (l.zipIdx.all fun (o, i) => (edgesOf o).all fun j => Nat.blt j i) &&
  (l.zipIdx.all fun (o, i) => if Nat.ble m i then ((List.range i).all fun j => late.contains j || (ms.getD i 0).testBit j) else
    (o.dst.isSome && ((ds.zipIdx.all fun (d, j) => j == i || d != o.dst) &&
      ((looks l o).all fun s => ds.zipIdx.all fun (d, j) => d != some s || (Nat.blt j i && (edgesOf o).contains j)))))

/-- What 'drawOkL' says. -/
structure DrawOkL (l : List Oper) (m : Nat) (late : List Nat) : Prop where
  lt : ∀ (i : Nat) o, l[i]? = some o → ∀ j ∈ edgesOf o, j < i
  tail : ∀ i, m ≤ i → i < l.length → ∀ j, j < i → j ∉ late → ((masksFrom l []).getD i 0).testBit j = true
  dst : ∀ (i : Nat) o, l[i]? = some o → i < m → ∀ (j : Nat) o', l[j]? = some o' → j < m → j ≠ i → o'.dst ≠ o.dst
  look : ∀ (i : Nat) o, l[i]? = some o → i < m → ∀ s ∈ looks l o, ∀ (j : Nat) o', l[j]? = some o' → j < m → o'.dst = some s → j < i ∧ j ∈ edgesOf o

theorem drawOkL_spec {l : List Oper} {m : Nat} {late : List Nat} (h : drawOkL l m late = true) : DrawOkL l m late := by
  unfold drawOkL at h
  simp only [Bool.and_eq_true, List.all_eq_true] at h
  obtain ⟨h1, h2⟩ := h
  refine ⟨?_, ?_, ?_, ?_⟩
  · intro i o ho j hj
    have := h1 (o, i) (mem_zipIdx ho) j hj
    exact Nat.le_of_ble_eq_true this
  · intro i hmi hi j hj hl
    have ho : l[i]? = some (l[i]) := List.getElem?_eq_getElem hi
    have := h2 (l[i], i) (mem_zipIdx ho)
    simp only [Nat.ble_eq, hmi, if_true] at this
    have := List.all_eq_true.1 this j (List.mem_range.2 hj)
    simpa [hl] using this
  · intro i o ho hi j o' ho' hj hne
    have := h2 (o, i) (mem_zipIdx ho)
    simp only [Nat.ble_eq, Nat.not_le.2 hi, if_false, Bool.and_eq_true, List.all_eq_true] at this
    have k := this.2.1 (o'.dst, j) (mem_zipIdx (by simp [hj, ho']))
    simpa [hne] using k
  · intro i o ho hi s hs j o' ho' hj hd
    have := h2 (o, i) (mem_zipIdx ho)
    simp only [Nat.ble_eq, Nat.not_le.2 hi, if_false, Bool.and_eq_true, List.all_eq_true] at this
    have k := this.2.2 s hs (o'.dst, j) (mem_zipIdx (by simp [hj, ho']))
    simp [hd] at k
    exact ⟨k.1, k.2⟩

section
variable {P : Program} {Q : Exit → Act → World → Prop} {l : List Oper} {m : Nat} {late : List Nat} {ro : Option Nat}

theorem tail_anyL (D : DrawOkL l m late) (hlm : ∀ i ∈ late, i < m) : ∀ (t j : Nat) (S : Array Bool) (a : Act) (w : World), j + t = l.length → m ≤ j → S.size = l.length → (∀ i, S.getD i false = decide (i < j)) →
    wpListIn (fz ro) 9 P l.toArray Q (l.drop j) a w → wpAnyIn (fz ro) 9 P .any l.toArray Q t S a w := by
  intro t
  induction t with
  | zero =>
    intro j S a w hj hm hS hl h
    refine ⟨?_, by rw [List.drop_eq_nil_of_le (by omega)] at h; exact h⟩
    refine List.eq_nil_iff_forall_not_mem.2 fun i hi => ?_
    obtain ⟨h1, o, ho, _⟩ := ready_iff.1 hi
    obtain ⟨h2, h3⟩ := getD_false_of_true h1
    rw [hl i] at h2
    simp at h2; omega
  | succ t ih =>
    intro j S a w hj hm hS hl h
    have hlt : j < l.length := by omega
    have ho : l[j]? = some l[j] := List.getElem?_eq_getElem hlt
    have hself : j ∈ Region.ready .any l.toArray S := ready_iff.2 ⟨getD_true_of_false (by rw [hl]; simp) (by omega), l[j], ho, fun k hk => by rw [hl]; simpa using D.lt j _ ho k hk⟩
    refine ⟨fun e => by rw [e] at hself; simp at hself, fun i hi => ?_⟩
    obtain ⟨h1, o, hoi, hr⟩ := ready_iff.1 hi
    obtain ⟨h2, h3⟩ := getD_false_of_true h1
    have hij : i = j := by
      rw [hl i] at h2
      simp at h2
      rcases Nat.lt_or_ge j i with q | q
      · exfalso
        have hb := D.tail i (by omega) (by omega) j q (fun hc => by have := hlm _ hc; omega)
        have := masks_closed (fun k => S.getD k false) l [] 0 rfl (by simp) (by simpa using D.lt) (by
          intro i' o' ho' hSi j' hj'
          simp only [Nat.zero_add] at hSi
          rw [hl] at hSi ⊢
          have := D.lt i' o' ho' j' hj'
          simp at hSi ⊢; omega) i o hoi hr j (by simpa using hb)
        rw [hl] at this; simp at this
      · omega
    subst hij
    rw [List.drop_eq_getElem_cons hlt] at h
    have hop : wpOpIn (fz ro) 9 P l.toArray Q i (wpListIn (fz ro) 9 P l.toArray Q (l.drop (i + 1))) a w := by
      unfold wpOpIn
      simp only [List.getElem?_toArray, ho]
      unfold wpListIn at h
      exact h
    refine wpOpIn_mono (fun a w hk => ih (i + 1) _ a w (by omega) (by omega) (by simpa using hS) (fun k => ?_) hk) hop
    rw [getD_set (by omega), hl]
    by_cases hk : k = i
    · subst hk; simp
    · simp [hk]; omega
end


def isMove : Oper → Bool
  | ⟨some _, .move (.tmp _), _, _, _, none⟩ => true
  | _ => false
/-- The late moves can be taken first. -/
def lateOk (l : List Oper) (m : Nat) : List Nat → Array Bool → Bool
  | [], _ => Region.noSelect l.toArray
  | i :: ls, S => Nat.blt i m && (match l[i]? with | some o => isMove o | none => false) && Region.free .any l.toArray S i && (Region.ready .any l.toArray S).contains i && lateOk l m ls (S.setIfInBounds i true)
theorem lateOk_lt {l : List Oper} {m : Nat} : ∀ {ls : List Nat} {S : Array Bool}, lateOk l m ls S = true → ∀ i ∈ ls, i < m
  | [], _, _ => fun _ h => by cases h
  | j :: ls, S, h => fun i hi => by
    unfold lateOk at h
    simp only [Bool.and_eq_true] at h
    rcases List.mem_cons.1 hi with rfl | hi
    · exact Nat.le_of_ble_eq_true h.1.1.1.1
    · exact lateOk_lt h.2 i hi
theorem lateOk_sel {l : List Oper} {m : Nat} : ∀ {ls : List Nat} {S : Array Bool}, lateOk l m ls S = true → Region.noSelect l.toArray = true
  | [], _, h => h
  | j :: ls, S, h => by
    unfold lateOk at h
    simp only [Bool.and_eq_true] at h
    exact lateOk_sel h.2
def NoPanic (Q : Exit → Act → World → Prop) : Exit → Act → World → Prop
  | .panic _, _, _ => False
  | e, a, w => Q e a w
theorem isMove_spec {o : Oper} (h : isMove o = true) : ∃ d s, o.dst = some d ∧ o.op = .move (.tmp s) ∧ o.guard = none := by
  unfold isMove at h
  split at h
  · exact ⟨_, _, rfl, rfl, rfl⟩
  · cases h

theorem Fin_nop {E : Env} {g : Ctx} {Q : Exit → Act → World → Prop} (h : Fin E g .normal Q) : Fin E g .normal (NoPanic Q) := h

theorem W_drawL {E : Env} {g : Ctx} {Q : Exit → Act → World → Prop} {id : Nat} {l : List Oper} (m : Nat) (late : List Nat) (hmix : E.P.follows .mixedOrders = true) (hm : Nat.ble m l.length = true) (hok : drawOkL l m late = true)
    (hlate : lateOk l m late (Array.replicate l.length false) = true) (hro : E.rnd = none)
    (h : Chain E l.toArray g.oc (l.take m) g.sl fun av => WL E l.toArray (l.drop m) { g with sl := av } (NoPanic Q)) : W E (.region id l.toArray true) g Q := by
  have hm := Nat.le_of_ble_eq_true hm
  have D := drawOkL_spec hok
  have hlm := lateOk_lt hlate
  obtain ⟨fs, hfl, hK, hst⟩ := h.split
  have hfl : fs.length = m := by rw [hfl]; simp [hm]
  have hstep : ∀ (i : Nat) o f, l[i]? = some o → i < m → fs[i]? = some f → Step1 E l.toArray g.oc ((fs.take i).reverse ++ g.sl) o f := fun i o f ho hi hf => hst i o f (by simp [hi, ho]) hf
  have hdst : ∀ (i : Nat) o f, l[i]? = some o → i < m → fs[i]? = some f → o.dst = some f.1 := fun i o f ho hi hf => (hstep i o f ho hi hf).1
  have getop : ∀ i, i < m → ∃ o f, l[i]? = some o ∧ fs[i]? = some f := fun i hi =>
    ⟨l[i]'(by omega), fs[i]'(by omega), List.getElem?_eq_getElem _, List.getElem?_eq_getElem _⟩
  have stepP : ∀ (S : Array Bool) (a : Act) (w : World), PState E g l m fs S a w → ∀ (i : Nat) o, l[i]? = some o → i < m → S.getD i false = false → (∀ k ∈ edgesOf o, S.getD k false = true) →
      ∀ (Q' : Exit → Act → World → Prop) (K : Act → World → Prop), (∀ a' w', PState E g l m fs (S.setIfInBounds i true) a' w' → K a' w') →
      if Region.wanted o (yielded l.toArray a.tmps) then o.wpIn (fz E.rnd) 9 E.P a w K Q' else (∀ f, o.about E.P w a.eval = some f → (fz E.rnd).fn f) ∧ K (a.put o.dst undef) w := by
    intro S a w p i o ho him hSi hr Q' K hK'
    have hilt : i < l.length := by omega
    obtain ⟨_, f, _, hf⟩ := getop i him
    have hs := hstep i o f ho him hf
    obtain ⟨r, H, hg, hfacts⟩ := p.at_
    have hsl : ∀ s ∈ o.looksAt l.toArray, ∀ c x, look ((fs.take i).reverse ++ g.sl) s = some (c, x) → (c = true → x.p r (a.tmps.getD s undef)) ∧ (c = false → a.tmps.getD s undef = undef) := by
      intro s hsm c x e
      rw [looks_eq] at hsm
      rcases look_append e with q | ⟨q1, q2⟩
      · obtain ⟨j, hj, he⟩ := List.getElem_of_mem (List.mem_reverse.1 q)
        have hj' : j < i := by simp at hj; omega
        have hfj : fs[j]? = some (s, c, x) := by
          rw [← he, List.getElem_take]
          exact List.getElem?_eq_getElem _
        obtain ⟨oj, fj, hoj, hfj'⟩ := getop j (by omega)
        rw [hfj] at hfj'
        cases hfj'
        have hd := hdst j oj _ hoj (by omega) hfj
        have hk := D.look i o ho him s hsm j oj hoj (by omega) hd
        exact hfacts j (s, c, x) hfj (hr j hk.2)
      · refine hg s c x q1 fun f' hf' e' => ?_
        obtain ⟨j, hj, he⟩ := List.getElem_of_mem hf'
        have hfj : fs[j]? = some f' := by rw [List.getElem?_eq_getElem hj, he]
        obtain ⟨oj, fj, hoj, hfj'⟩ := getop j (by omega)
        have hd := hdst j oj f' hoj (by omega) hfj
        rw [e'] at hd
        have hk := D.look i o ho him s hsm j oj hoj (by omega) hd
        refine q2 f' (List.mem_reverse.2 ?_) e'
        exact List.mem_of_getElem? (i := j) (by rw [List.getElem?_take]; simp [hk.1, hfj])
    exact step_sem (Q := Q') hs H.ok H.oc p.tmps hsl (K := K) (fun v s w' gr hv hun => by
      refine hK' _ _ ?_
      have hd : Nat.ble (f.1 + 1) E.n = true := hs.2.1
      have hlt : f.1 < a.tmps.size := by rw [p.tmps]; exact Nat.le_of_ble_eq_true hd
      refine ⟨by simpa using p.size, ?_, ?_, by rw [size_put]; exact p.tmps, by rw [defers_put]; exact p.defers.grow H gr, s, ?_, ?_, ?_⟩
      · intro j hj
        rw [getD_set (by rw [p.size]; omega), p.tail j hj]
        simp; omega
      · intro j oj hoj hSj k' hk'
        rw [getD_set (by rw [p.size]; omega)] at hSj ⊢
        rcases Bool.or_eq_true _ _ ▸ hSj with q | q
        · have : j = i := by simpa using q
          subst this
          rw [ho] at hoj; cases hoj
          rw [hr k' hk']; simp
        · rw [p.closed j oj hoj q k' hk']; simp
      · have := H.grow gr (a' := a.put (some f.1) v) (fun _ _ _ e => by cases e)
        exact this
      · intro s' c x e hne
        have hk := hg s' c x e hne
        have hne' : f.1 ≠ s' := hne f (List.mem_of_getElem? hf)
        unfold Fact at *
        simp only [getD_put_ne hne']
        exact ⟨fun hc => x.mono gr.le (hk.1 hc), hk.2⟩
      · intro j f' hfj hSj
        rw [getD_set (by rw [p.size]; omega)] at hSj
        by_cases hji : j = i
        · subst hji
          rw [hf] at hfj; cases hfj
          unfold Fact
          rw [getD_put_same hlt]
          exact ⟨hv, hun⟩
        · have hSj' : S.getD j false = true := by simpa [hji] using hSj
          have hk := hfacts j f' hfj hSj'
          have hjm : j < m := by rw [← hfl]; exact (List.getElem?_eq_some_iff.1 hfj).1
          obtain ⟨oj, _, hoj, _⟩ := getop j hjm
          have hne' : f.1 ≠ f'.1 := fun e' => D.dst i o ho him j oj hoj hjm hji (by rw [hdst j oj f' hoj hjm hfj, hdst i o f ho him hf, e'])
          unfold Fact at *
          simp only [getD_put_ne hne']
          exact ⟨fun hc => f'.2.2.mono gr.le (hk.1 hc), hk.2⟩)
  have hfil : ∀ (S : Array Bool) (i : Nat), S.size = l.length → i < m → S.getD i false = false → ((List.range m).filter fun j => !(S.setIfInBounds i true).getD j false).length + 1 = ((List.range m).filter fun j => !S.getD j false).length := by
    intro S i hS him hSi
    have hfil : ((List.range m).filter fun j => !(S.setIfInBounds i true).getD j false) = ((List.range m).filter fun j => !S.getD j false).erase i := by
      rw [List.Nodup.erase_eq_filter (List.Nodup.sublist List.filter_sublist List.nodup_range), List.filter_filter]
      refine List.filter_congr fun j _ => ?_
      rw [getD_set (by rw [hS]; omega)]
      by_cases hji : j = i <;> simp [hji]
    have hmem : i ∈ (List.range m).filter fun j => !S.getD j false := List.mem_filter.2 ⟨List.mem_range.2 him, by simp [hSi]⟩
    have hpos := List.length_pos_of_mem hmem
    rw [hfil, List.length_erase_of_mem hmem]
    omega
  intro a w k
  refine wpIn_mono (Q := NoPanic Q) (wpIn_region_any hmix ?_) (fun e a w h => by cases e <;> first | exact h | exact h.elim)
  have key : ∀ (u : Nat) (S : Array Bool) (a : Act) (w : World), PState E g l m fs S a w → (∀ i ∈ late, S.getD i false = true) → ((List.range m).filter fun i => !S.getD i false).length = u →
      wpAnyIn (fz E.rnd) 9 E.P .any l.toArray (NoPanic Q) (u + (l.length - m)) S a w := by
    intro u
    induction u with
    | zero =>
      intro S a w p hla hu
      have hall : ∀ i, i < m → S.getD i false = true := fun i hi => by
        have := List.length_eq_zero_iff.1 hu
        have := List.filter_eq_nil_iff.1 this i (List.mem_range.2 hi)
        simpa using this
      have hSi : ∀ i, S.getD i false = decide (i < m) := fun i => by
        rcases Nat.lt_or_ge i m with q | q
        · rw [hall i q]; simp [q]
        · rw [p.tail i q]; simp; omega
      rw [Nat.zero_add]
      refine tail_anyL D hlm _ m S a w (by omega) (Nat.le_refl _) p.size hSi ?_
      obtain ⟨r, H, hg, hf⟩ := p.at_
      refine hK a w ⟨p.tmps, p.defers, r, { H with slots := ?_ }⟩
      intro s c x e
      rcases look_append e with q | ⟨q1, q2⟩
      · obtain ⟨i, hi, he⟩ := List.getElem_of_mem (List.mem_reverse.1 q)
        exact hf i (s, c, x) (by rw [List.getElem?_eq_getElem hi, he]) (hall i (by omega))
      · exact hg s c x q1 (fun f hf => q2 f (List.mem_reverse.2 hf))
    | succ u ih =>
      intro S a w p hla hu
      rw [show u + 1 + (l.length - m) = (u + (l.length - m)) + 1 from by omega]
      have hex : ∃ i, i < m ∧ S.getD i false = false := by
        have hne : ((List.range m).filter fun i => !S.getD i false) ≠ [] := fun e => by rw [e] at hu; simp at hu
        obtain ⟨i, hi⟩ := List.exists_mem_of_ne_nil _ hne
        obtain ⟨h1, h2⟩ := List.mem_filter.1 hi
        exact ⟨i, List.mem_range.1 h1, by simpa using h2⟩
      obtain ⟨i0, ⟨hi0, hS0⟩, hmin⟩ := least hex
      have hready : i0 ∈ Region.ready .any l.toArray S := by
        have ho : l[i0]? = some (l[i0]'(by omega)) := List.getElem?_eq_getElem _
        refine ready_iff.2 ⟨getD_true_of_false hS0 (by rw [p.size]; omega), _, ho, fun j hj => ?_⟩
        have hlt := D.lt i0 _ ho j hj
        cases hSj : S.getD j false with
        | true => rfl
        | false => have := hmin j ⟨by omega, hSj⟩; omega
      refine ⟨fun e => by rw [e] at hready; simp at hready, fun i hi => ?_⟩
      obtain ⟨h1, o, ho, hr⟩ := ready_iff.1 hi
      obtain ⟨hSi, hilt⟩ := getD_false_of_true h1
      rw [p.size] at hilt
      have him : i < m := by
        rcases Nat.lt_or_ge i m with q | q
        · exact q
        · exfalso
          have := masks_closed (fun k => S.getD k false) l [] 0 rfl (by simp) (by simpa using D.lt) (by
            intro i' o' ho' hSi' j' hj'
            simp only [Nat.zero_add] at hSi'
            exact p.closed i' o' ho' hSi' j' hj') i o ho hr i0 (by simpa using D.tail i q hilt i0 (by omega) (fun hc => by rw [hla _ hc] at hS0; cases hS0))
          rw [hS0] at this; cases this
      unfold wpOpIn
      simp only [List.getElem?_toArray, ho]
      have step := stepP S a w p i o ho him hSi hr (NoPanic Q) (wpAnyIn (fz E.rnd) 9 E.P .any l.toArray (NoPanic Q) (u + (l.length - m)) (S.setIfInBounds i true)) (fun a' w' p' => by
        refine ih _ _ _ p' (fun j hj => ?_) ?_
        · rw [getD_set (by rw [p.size]; omega), hla j hj]; simp
        · have := hfil S i p.size him hSi; omega)
      split
      · rename_i hw
        rw [if_pos hw] at step
        exact step
      · rename_i hw
        rw [if_neg hw] at step
        exact step
  have takeL : ∀ (ls : List Nat) (S : Array Bool) (a : Act) (w : World), lateOk l m ls S = true → PState E g l m fs S a w → (∀ i ∈ late, i ∈ ls ∨ S.getD i false = true) →
      wpAnyIn (fz E.rnd) 9 E.P .any l.toArray (NoPanic Q) (((List.range m).filter fun i => !S.getD i false).length + (l.length - m)) S a w := by
    intro ls
    induction ls with
    | nil => intro S a w _ p hla; exact key _ S a w p (fun i hi => (hla i hi).elim (fun h => by cases h) (fun h => h)) rfl
    | cons i ls ih =>
      intro S a w hl p hla
      have hsel := lateOk_sel hl
      unfold lateOk at hl
      simp only [Bool.and_eq_true] at hl
      obtain ⟨⟨⟨⟨h1, h2⟩, h3⟩, h4⟩, h5⟩ := hl
      have him : i < m := Nat.le_of_ble_eq_true h1
      have ho : l[i]? = some (l[i]'(by omega)) := List.getElem?_eq_getElem _
      rw [ho] at h2
      obtain ⟨d, s, e1, e2, e3⟩ := isMove_spec h2
      have hrd : i ∈ Region.ready .any l.toArray S := by simpa using h4
      obtain ⟨q1, o, ho', hr⟩ := ready_iff.1 hrd
      rw [ho] at ho'
      cases ho'
      obtain ⟨hSi, _⟩ := getD_false_of_true q1
      have hw : Region.wanted (l[i]'(by omega)) (yielded l.toArray a.tmps) = true := by simp [Region.wanted, e3]
      have hrun : ∀ w, (execOp a.eval (l[i]'(by omega))).run E.P w = .ok (.value (a.eval (.tmp s))) w := fun w => by simp [execOp, e2]
      have hy : YieldsFenced E.P l.toArray (l[i]'(by omega)) (a.eval (.tmp s)) a := ⟨.inl ⟨hw, hrun⟩, fun w => by simp [Oper.about, e2]⟩
      have step := stepP S a w p i _ ho him hSi hr (NoPanic Q) (fun a' w' => PState E g l m fs (S.setIfInBounds i true) a' w') (fun a' w' p' => p')
      rw [if_pos hw] at step
      unfold Oper.wpIn at step
      have step := step.2
      rw [Oper.semAt_eq _ _ _ (by rw [e2]; simp), hrun] at step
      simp only [Oper.uponIn] at step
      have hn := hfil S i p.size him hSi
      rw [show ((List.range m).filter fun i => !S.getD i false).length + (l.length - m) = ((List.range m).filter fun j => !(S.setIfInBounds i true).getD j false).length + (l.length - m) + 1 from by omega]
      refine wpAnyIn_take (by rw [hro]; rfl) (by rw [List.getElem?_toArray]; exact ho) hsel h3 h4 (fun c a w h => h.elim) hy ?_
      refine ih _ _ _ h5 step fun j hj => ?_
      rcases hla j hj with h | h
      · rcases List.mem_cons.1 h with rfl | h
        · right; rw [getD_set (by rw [p.size]; omega)]; simp
        · exact .inl h
      · right; rw [getD_set (by rw [p.size]; omega), h]; simp
  obtain ⟨k1, k2, r, H⟩ := k
  have k2 : Marks E { w with drawn := w.drawn + 1 } a.defers := k2.grow H (Grow.same H.ok ((Below.refl _ _).drew))
  have hcount : ((List.range m).filter fun i => !(Array.replicate l.toArray.size false).getD i false).length = m := by
    rw [List.filter_eq_self.2 (fun i hi => ?_)]
    · simp
    · rw [getD_replicate]; rfl
  have hdrew : HoldsAt E { g with sl := [] } r a { w with drawn := w.drawn + 1 } := by
    have hgr : Grow r w r w.drew := Grow.same H.ok ((Below.refl _ _).drew)
    have := H.grow hgr (a' := a) H.slots
    exact { this with slots := fun _ _ _ e => by cases e }
  have fin := takeL late (Array.replicate l.toArray.size false) a { w with drawn := w.drawn + 1 } (by rw [show l.toArray.size = l.length from by simp]; exact hlate) ⟨by simp, fun i _ => getD_replicate _ i, (by intro i o _ hS; rw [getD_replicate] at hS; cases hS), k1, k2, r, hdrew, fun s c x e _ => H.slots s c x e, (by intro i f _ hS; rw [getD_replicate] at hS; cases hS)⟩ (fun i hi => .inl hi)
  rw [hcount, show m + (l.length - m) = l.toArray.size from by simp; omega] at fin
  exact fin
end Go.L
/-! A slice that is appended to becomes an owned one, in a function that is handed memory. -/
namespace Go.L
open Go Go.RowKit
section
variable {E : Env} {g : Ctx} {Q : Exit → Act → World → Prop} {l : List Oper} {ops : Array Oper}
/-- An owned block is given up. -/
theorem WL_drop (i : Nat) {y : Nat × TypeId × List A} (_hi : g.own[i]? = some y) (h : WL E ops l { g with own := g.own.eraseIdx i } Q) : WL E ops l g Q := by
  intro a w ⟨h1, h2, r, H⟩
  exact h a w ⟨h1, h2, r, H.reown (fun x hx => List.mem_of_mem_eraseIdx hx) (((List.eraseIdx_sublist _ _).map _).nodup H.nodup)⟩
end
theorem FnX_of_W' {P : Program} {f : FuncId} {fn : Func} {c : Code} {args : List A} {T : Type} {m : Mem} {t : T → A} {m' : T → Mem} (hf : P.funcs[f]? = some fn) (hb : fn.body = some c) (hn : Nat.ble args.length fn.ntmps = true)
    (h : ∀ r w, r.ok w → W (EX P fn.ntmps w r m.blk) c ⟨params 0 args, m.own, m.rooms, m.maps, [], [r]⟩ (bodyPostM (fz none) 9 P fn (RetX m r w t m'))) : FnX P f m args t m' := by
  intro r w vs hok hm ha
  exact Calls_of_W hf hb hn hok ha hm (fun _ h => h) (fun _ _ _ h => h.elim) (fun c hc => by rcases List.mem_singleton.1 hc with rfl; exact Rho.le_refl _) (h r w hok)
theorem flat_ints (L : List Int) : L.flatMap (fun n => [A.int n]) = L.map A.int := by
  induction L with
  | nil => rfl
  | cons n L ih => rw [List.flatMap_cons, ih]; rfl
end Go.L
/-! New memory weakened. -/
namespace Go.L
open Go Go.RowKit
theorem Imp.sli {S : Type} {k : Nat} {f f' : S → List A} {L : List S} (h : ∀ y, AllImp (f' y) (f y)) : Imp (A.sl k f L) (A.sl k f' L) := fun r v ⟨a, len, cap, e, h1, h2, h3, q⟩ =>
  ⟨a, len, cap, e, h1, h2, h3, fun hn => by
    obtain ⟨b, o, ea, hc⟩ := q hn
    refine ⟨b, o, ea, fun i y hy j c hj => ?_⟩
    have h0 := hc i y hy
    have hh := h y
    have : ∀ (l m : List A) (o : Nat), AllImp l m → A.CellsAt r b o m → ∀ (j : Nat) c, l[j]? = some c → ∃ x, r ⟨b, o + j, none⟩ = some x ∧ c.p r x := by
      intro l
      induction l with
      | nil => intro m o _ _ j c hj; simp at hj
      | cons t l ih =>
        intro m o hlm hat j c hj
        cases m with
        | nil => exact hlm.elim
        | cons u m =>
          cases j with
          | zero =>
            simp at hj; subst hj
            obtain ⟨x, hx, hp⟩ := hat 0 u (by simp)
            exact ⟨x, hx, hlm.1 r x hp⟩
          | succ j =>
            have := ih m (o + 1) hlm.2 (fun i c' hi => by
              obtain ⟨x, hx, hp⟩ := hat (i + 1) c' (by simpa using hi)
              exact ⟨x, by rw [← hx]; congr 2; omega, hp⟩) j c (by simpa using hj)
            obtain ⟨x, hx, hp⟩ := this
            exact ⟨x, by rw [← hx]; congr 2; omega, hp⟩
    exact this _ _ _ hh h0 j c hj⟩
theorem AllPure.ints : ∀ (L : List Int), AllPure (L.map A.int)
  | [] => trivial
  | _ :: L => ⟨Pure.val, AllPure.ints L⟩
theorem AllPure.intsp (L : List Int) (n : Nat) : AllPure (L.map A.int ++ List.replicate n A.any) := (AllPure.ints L).append (AllPure.anys n)
theorem flat_ints' (L : List Int) : L.flatMap (fun n => [A.int n]) = L.map A.int := flat_ints L
theorem Lend.osI {O : Own} (j : Nat) {b ty n cap : Nat} {L : List Int} {sp : List A} (hi : nth O j = some (b, ty, L.map A.int ++ sp)) (hn : n = L.length) (h1 : n ≤ cap) (h2 : cap ≤ maxLen) : Lend O (A.os b n cap) (A.sl 1 (fun n => [A.int n]) L) :=
  Lend.os j hi hn h1 h2 (fun _ => rfl) (AllImp.eq (by rw [flat_ints, List.length_map, List.take_left' (by simp)]))
theorem AllKI.pure {c : Rho} : ∀ {l : List A}, AllPure l → AllKI c l l
  | [], _ => trivial
  | _ :: _, h => ⟨KI.pure h.1, AllKI.pure h.2⟩
end Go.L
