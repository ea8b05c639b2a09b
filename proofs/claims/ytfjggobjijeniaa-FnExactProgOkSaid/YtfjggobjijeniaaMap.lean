import Derived.Test.YtfjggobjijeniaaCal7
import Derived.Maps.Keyed
import Derived.DeepKeys4
import Derived.DeepKeys5
/-! Maps of one's own; keys that are structs. -/
namespace Go.L
open Go Go.RowKit
open Classical in
/-- The first entry with a key. -/
noncomputable def mfind {T : Type} : List (Value × T) → Value → Option T
  | [], _ => none
  | (k, t) :: l, v => if k = v then some t else mfind l v
theorem mfind_none {T : Type} {v : Value} : ∀ {l : List (Value × T)}, (∀ e ∈ l, e.1 ≠ v) → mfind l v = none
  | [], _ => rfl
  | (k, t) :: l, h => by
    unfold mfind
    rw [if_neg (h (k, t) (by simp))]
    exact mfind_none fun e he => h e (by simp [he])
theorem mfind_some {T : Type} {v : Value} : ∀ {l : List (Value × T)}, (l.map (·.1)).Nodup → ∀ {k : Value} {t : T}, (k, t) ∈ l → k = v → mfind l v = some t
  | (k', t') :: l, hn, k, t, h, e => by
    unfold mfind
    rw [List.map_cons, List.nodup_cons] at hn
    rcases List.mem_cons.1 h with h | h
    · cases h; rw [if_pos e]
    · rw [if_neg (fun e' => hn.1 (List.mem_map.2 ⟨_, h, by rw [e', ← e]⟩))]
      exact mfind_some hn.2 h e
theorem mfind_map {T S : Type} (f : T → S) (v : Value) : ∀ (l : List (Value × T)), mfind (l.map fun e => (e.1, f e.2)) v = (mfind l v).map f
  | [] => rfl
  | (k, t) :: l => by
    unfold mfind
    rw [List.map_cons]
    by_cases h : k = v
    · simp only [h, if_true]; rfl
    · simp only [h, if_false]; rw [mfind_map f v l]

/-- Keys that can be looked for. -/
def KeyOk (P : Program) (k : TypeId) (v : Value) : Prop := ∃ l, keyOf P k v = some l
structure MapT (P : Program) (T k e : TypeId) : Prop where
  desc : P.underlying T = some (.map k e)
  keyed : Go.Maps.Keyed P k

section
variable {P : Program} {w : World} {T k e : TypeId}
theorem All2.map {r : Rho} : ∀ {l : List A} {vs : List Value} {i : Nat} {t : A} {v : Value}, All2 r l vs → l[i]? = some t → vs[i]? = some v → t.p r v
  | _ :: _, _ :: _, 0, _, _, h, a, b => by simp at a b; subst a; subst b; exact h.1
  | _ :: _, _ :: _, i + 1, _, _, h, a, b => All2.map h.2 (by simpa using a) (by simpa using b)
  | [], _, _, _, _, _, a, _ => by simp at a
  | _ :: _, [], _, _, _, h, _, _ => h.elim
/-- A lookup in a map. -/
theorem run_lookup_ok (h : MapT P T k e) {r : Rho} {b : Nat} {es : List (Value × A)} (hm : MapAt r w b es) (hk : ∀ x ∈ es, KeyOk P k x.1) (hn : (es.map (·.1)).Nodup) {v z : Value} (hv : KeyOk P k v) (hz : (zeroValue e).run P w = .ok z w) :
    ∃ u, (Instr.lookup T (.map (some b)) v true).run P w = .ok (.tuple #[u, .bool (mfind es v).isSome]) w ∧ (∀ t, mfind es v = some t → t.p r u) ∧ (mfind es v = none → u = z) := by
  obtain ⟨arr, cl, hb, h1, h2⟩ := hm
  obtain ⟨l, hl⟩ := hv
  have hkeys : ∀ x ∈ arr.toList, ∃ l, keyOf P k x.key = some l := fun x hx => by
    have : x.key ∈ es.map (·.1) := by rw [← h1]; exact List.mem_map.2 ⟨x, hx, rfl⟩
    obtain ⟨y, hy, e'⟩ := List.mem_map.1 this
    obtain ⟨l, hl⟩ := hk y hy
    exact ⟨l, by rw [← e']; exact hl⟩
  rcases h.keyed.find w hl arr.toList hkeys with ⟨q1, q2⟩ | ⟨j, e0, q1, q2, q3⟩
  · have hnone : mfind es v = none := mfind_none fun x hx e' => by
      have : x.1 ∈ arr.toList.map (·.key) := by rw [h1]; exact List.mem_map.2 ⟨x, hx, rfl⟩
      obtain ⟨y, hy, e2⟩ := List.mem_map.1 this
      exact q2 y hy (e2.trans e')
    refine ⟨z, ?_, fun t ht => (by rw [hnone] at ht; cases ht), fun _ => rfl⟩
    rw [hnone]
    simp [Instr.lookup, run_underlying h.desc, MapKept.run_getObj_map hb, h.keyed.check w _ hl, q1, hz]
  · have hjl : j < es.length := by
      have e1 := congrArg List.length h1
      have := (List.getElem?_eq_some_iff.1 q2).1
      simp at e1 this; omega
    have hkey : (es[j]).1 = v := by
      have e1 : (arr.toList.map (·.key))[j]? = some e0.key := by rw [List.getElem?_map, q2]; rfl
      rw [h1, List.getElem?_map, List.getElem?_eq_getElem hjl] at e1
      have := Option.some.inj e1
      exact this.trans q3
    have hsome : mfind es v = some (es[j]).2 := mfind_some hn (k := (es[j]).1) (List.getElem_mem hjl) hkey
    refine ⟨e0.val, ?_, fun t ht => ?_, fun hnone => by rw [hsome] at hnone; cases hnone⟩
    · rw [hsome]
      simp [Instr.lookup, run_underlying h.desc, MapKept.run_getObj_map hb, h.keyed.check w _ hl, q1]
    · rw [hsome] at ht; cases ht
      refine All2.map h2 (i := j) ?_ ?_
      · rw [List.getElem?_map, List.getElem?_eq_getElem hjl]; rfl
      · rw [List.getElem?_map, q2]; rfl
end

section
variable {E : Env} {g : Ctx} {Q : Exit → Act → World → Prop} {ops : Array Oper} {rest : List Oper}
/-- A new map. -/
theorem WL_makeMap {d T : Nat} {ty : TypeId} {pos : String} {aft : Array Edge} (hd : Nat.ble (d + 1) E.n = true)
    (h : ∀ b, WL E ops rest { g with sl := (d, true, A.val (.map (some b))) :: g.sl, maps := (b, []) :: g.maps } Q) :
    WL E ops (⟨some d, .makeMap T none, ty, pos, aft, none⟩ :: rest) g Q := by
  intro a w ⟨h1, h2, r, H⟩
  have hrun : (execOp a.eval ⟨some d, .makeMap T none, ty, pos, aft, none⟩).run E.P w = .ok (.value (.map (some w.heap.size))) (w.alloc (.map #[] 0)) := by
    simp [execOp, Instr.makeMap, newObj]
    rfl
  have gr : Grow r w r (w.alloc (.map #[] 0)) := Grow.same H.ok ((Below.refl _ _).alloc (Nat.le_refl _) _)
  refine wpListIn_value rfl (by simp) (fun _ => trivial) hrun (h w.heap.size _ _ ⟨by rw [size_put]; exact h1, ?_, r, ?_⟩)
  · rw [defers_put]; exact h2.grow H gr
  · have hlt : d < a.tmps.size := by rw [h1]; exact Nat.le_of_ble_eq_true hd
    have H' := H.grow gr (a' := a) H.slots
    exact { H' with
      slots := Slots.put H'.slots hlt (fun _ => rfl) (fun hc => by cases hc)
      mp := {
        at_ := fun x hx => by
          rcases List.mem_cons.1 hx with rfl | hx
          · exact ⟨#[], 0, World.alloc_heap_new w _, rfl, trivial⟩
          · exact H'.mp.at_ x hx
        un := fun x hx o s => by
          rcases List.mem_cons.1 hx with rfl | hx
          · cases e : r ⟨w.heap.size, o, s⟩ with
            | none => rfl
            | some v => exact absurd (Rho.ok_lt H.ok e) (by simp)
          · exact H'.mp.un x hx o s
        base := fun x hx => by
          rcases List.mem_cons.1 hx with rfl | hx
          · exact .inr H.size
          · exact H'.mp.base x hx
        nodup := by
          rw [List.map_cons, List.nodup_cons]
          refine ⟨fun hm => ?_, H'.mp.nodup⟩
          obtain ⟨y, hy, e⟩ := List.mem_map.1 hm
          have := (H.mp.at_ y hy).lt
          omega
        obj := H'.mp.obj
        objN := H'.mp.objN } }

/-- A lookup. -/
theorem WL_lookup (i : Nat) {d T k e : Nat} {m x : Operand} {ty : TypeId} {pos : String} {aft : Array Edge} {b : Nat} {es : List (Value × A)} {v : Value} {z : Value} (hT : MapT E.P T k e) (hz : ∀ w, (zeroValue e).run E.P w = .ok z w) 
    (hr : Reads g.sl true [(true, m, A.val (.map (some b))), (true, x, A.val v)]) (hi : g.maps[i]? = some (b, es)) (hk : ∀ y ∈ es, KeyOk E.P k y.1) (hn : (es.map (·.1)).Nodup) (hv : KeyOk E.P k v) (hd : Nat.ble (d + 1) E.n = true)
    (h : WL E ops rest { g with sl := (d, true, A.tup [(mfind es v).getD (A.val z), A.bool (mfind es v).isSome]) :: g.sl } Q) :
    WL E ops (⟨some d, .lookup T m x true, ty, pos, aft, none⟩ :: rest) g Q := by
  intro a w ⟨h1, h2, r, H⟩
  have hu := hr.use rfl H.slots
  have hm : a.eval m = .map (some b) := hu (true, m, A.val (.map (some b))) (by simp) rfl
  have hx : a.eval x = v := hu (true, x, A.val v) (by simp) rfl
  obtain ⟨u, q1, q2, q3⟩ := run_lookup_ok (w := w) hT (H.mp.at_ _ (List.mem_of_getElem? hi)) hk hn hv (hz w)
  have hrun : (execOp a.eval ⟨some d, .lookup T m x true, ty, pos, aft, none⟩).run E.P w = .ok (.value (.tuple #[u, .bool (mfind es v).isSome])) w := by
    simp [execOp, hm, hx, q1]
  refine wpListIn_value rfl (by simp) (fun _ => trivial) hrun (h _ _ ⟨by rw [size_put]; exact h1, by rw [defers_put]; exact h2, r, ?_⟩)
  have hlt : d < a.tmps.size := by rw [h1]; exact Nat.le_of_ble_eq_true hd
  refine { H with slots := Slots.put H.slots hlt (fun _ => ⟨_, rfl, ?_, rfl, trivial⟩) (fun hc => by cases hc) }
  cases hf : mfind es v with
  | none => exact q3 hf
  | some t => exact q2 t hf

theorem HoldsAt.putMap {r : Rho} {a : Act} {w : World} (H : HoldsAt E g r a w) {i b : Nat} {es es' : List (Value × A)} (hi : g.maps[i]? = some (b, es)) {arr : Array MapEntry} {cl : Nat} (h1 : arr.toList.map (·.key) = es'.map (·.1)) (h2 : All2 r (es'.map (·.2)) (arr.toList.map (·.val))) :
    HoldsAt E { g with maps := g.maps.set i (b, es') } r a (w.putObj b (.map arr cl)) := by
  have hmem := List.mem_of_getElem? hi
  obtain ⟨arr0, cl0, hb, _, _⟩ := H.mp.at_ _ hmem
  have hlt := (Array.getElem?_eq_some_iff.1 hb).1
  have hbase := H.mp.base _ hmem
  have hun := H.mp.un _ hmem
  have other : ∀ k, k ≠ b → (w.putObj b (.map arr cl)).heap[k]? = w.heap[k]? := fun k hk => World.putObj_heap_other hk
  have cells : ∀ k vs ty fr, w.heap[k]? = some (Obj.cells vs ty fr) → (w.putObj b (.map arr cl)).heap[k]? = some (Obj.cells vs ty fr) := fun k vs ty fr e => by
    rw [other k (fun e' => by subst e'; rw [hb] at e; cases e)]; exact e
  have unf : ∀ k, Unf w k → Unf (w.putObj b (.map arr cl)) k := fun k hu cs ty fr e => by
    by_cases hk : k = b
    · subst hk; rw [World.putObj_heap_same hlt] at e; cases e
    · rw [other k hk] at e; exact hu _ _ _ e
  have hne : ∀ x ∈ g.maps.set i (b, es'), x = (b, es') ∨ (x ∈ g.maps ∧ x.1 ≠ b) := by
    intro x hx
    obtain ⟨j, hj, e⟩ := List.getElem_of_mem hx
    rw [List.getElem_set] at e
    by_cases hij : i = j
    · rw [if_pos hij] at e; exact .inl e.symm
    · rw [if_neg hij] at e
      have hj' : j < g.maps.length := by simpa using hj
      refine .inr ⟨e ▸ List.getElem_mem hj', fun hxb => hij ?_⟩
      have hil : i < g.maps.length := (List.getElem?_eq_some_iff.1 hi).1
      refine (List.getElem?_inj (by simpa using hil) H.mp.nodup).1 ?_
      rw [List.getElem?_map, hi, List.getElem?_map, List.getElem?_eq_getElem hj', e]
      simp [hxb]
  have hmap : (g.maps.set i (b, es')).map (·.1) = g.maps.map (·.1) := by
    rw [List.map_set]
    apply List.ext_getElem?
    intro k
    rw [List.getElem?_set]
    split
    · rename_i e; subst e; simp [hi]; exact (List.getElem?_eq_some_iff.1 hi).1
    · rfl
  exact {
    le := H.le
    cps := H.cps
    ok := fun x v e => by
      have hxb : x.block ≠ b := fun e' => by
        have := hun x.off x.spot
        rw [← e'] at this
        have e2 : r x = none := this
        rw [e2] at e; cases e
      rw [other _ hxb]; exact H.ok x v e
    fresh := fun x v e => (H.fresh x v e).elim .inl fun q => .inr ⟨q.1, unf _ q.2⟩
    size := by rw [World.putObj_size]; exact H.size
    block := fun k hk hx => by
      rw [other k (fun e => by subst e; exact hbase.elim hx (fun h => by omega))]; exact H.block k hk hx
    unf := fun k hk hu => unf k (H.unf k hk hu)
    os := H.os, tape := H.tape, output := H.output, slots := H.slots
    own := fun x hx => by
      obtain ⟨k1, vs, k2, k3⟩ := H.own x hx
      exact ⟨k1, vs, cells _ _ _ _ k2, k3⟩
    ownB := H.ownB, nodup := H.nodup
    room := fun x hx => by
      have := H.room x hx
      unfold RoomOk at this ⊢
      split at this
      · exact this
      · obtain ⟨q1, q2, q3, q4, ⟨vs, q5, q6⟩, q7⟩ := this
        exact ⟨q1, q2, q3, q4, ⟨vs, cells _ _ _ _ q5, q6⟩, q7⟩
      · exact this
    roomB := H.roomB, roomN := H.roomN
    mp := {
      at_ := fun x hx => by
        rcases hne x hx with rfl | ⟨q1, q2⟩
        · exact ⟨arr, cl, World.putObj_heap_same hlt, h1, h2⟩
        · obtain ⟨ar, c, k1, k2, k3⟩ := H.mp.at_ x q1
          exact ⟨ar, c, by rw [other _ q2]; exact k1, k2, k3⟩
      un := fun x hx => by
        rcases hne x hx with rfl | ⟨q1, _⟩
        · exact hun
        · exact H.mp.un x q1
      base := fun x hx => by
        rcases hne x hx with rfl | ⟨q1, _⟩
        · exact hbase
        · exact H.mp.base x q1
      nodup := by rw [hmap]; exact H.mp.nodup
      obj := fun x hx => by
        obtain ⟨q1, q2, q3, q4⟩ := H.mp.obj x hx
        refine ⟨?_, q2, q3, q4⟩
        rw [other _ (fun e => by rw [e, hb] at q1; rw [← Option.some.inj q1] at q4; simp [isMapO] at q4)]
        exact q1
      objN := H.mp.objN } }

/-- A new entry. -/
theorem WL_mapPut (i : Nat) {T k e : Nat} {m x y : Operand} {ty : TypeId} {pos : String} {aft : Array Edge} {b : Nat} {es : List (Value × A)} {v : Value} {t : A} (hT : MapT E.P T k e)
    (hr : Reads g.sl true [(true, m, A.val (.map (some b))), (true, x, A.val v), (true, y, t)]) (hi : g.maps[i]? = some (b, es)) (hk : ∀ y ∈ es, KeyOk E.P k y.1) (hv : KeyOk E.P k v) (hnew : ∀ y ∈ es, y.1 ≠ v)
    (h : WL E ops rest { g with maps := g.maps.set i (b, es ++ [(v, t)]) } Q) :
    WL E ops (⟨none, .mapUpdate T m x y, ty, pos, aft, none⟩ :: rest) g Q := by
  intro a w ⟨h1, h2, r, H⟩
  have hu := hr.use rfl H.slots
  have hm : a.eval m = .map (some b) := hu (true, m, A.val (.map (some b))) (by simp) rfl
  have hx : a.eval x = v := hu (true, x, A.val v) (by simp) rfl
  have hy : t.p r (a.eval y) := hu (true, y, t) (by simp) rfl
  have hmem := List.mem_of_getElem? hi
  obtain ⟨arr, cl, hb, k1, k2⟩ := H.mp.at_ _ hmem
  obtain ⟨l, hl⟩ := hv
  have hkeys : ∀ x ∈ arr.toList, ∃ l, keyOf E.P k x.key = some l := fun z hz => by
    have : z.key ∈ es.map (·.1) := by rw [← k1]; exact List.mem_map.2 ⟨z, hz, rfl⟩
    obtain ⟨q, hq, e'⟩ := List.mem_map.1 this
    obtain ⟨l, hl⟩ := hk q hq
    exact ⟨l, by rw [← e']; exact hl⟩
  have hfind : (Instr.findKey k v arr.toList).run E.P w = .ok none w := by
    rcases hT.keyed.find w hl arr.toList hkeys with ⟨q1, _⟩ | ⟨j, e0, _, q2, q3⟩
    · exact q1
    · exfalso
      have : e0.key ∈ es.map (·.1) := by rw [← k1]; exact List.mem_map.2 ⟨e0, List.mem_of_getElem? q2, rfl⟩
      obtain ⟨q, hq, e'⟩ := List.mem_map.1 this
      exact hnew q hq (e'.trans q3)
  have hrun : (execOp a.eval ⟨none, .mapUpdate T m x y, ty, pos, aft, none⟩).run E.P w = .ok .skip (w.putObj b (.map (arr.push { key := v, val := a.eval y, born := cl }) (cl + 1))) := by
    simp [execOp, hm, hx, Instr.mapUpdate, run_underlying hT.desc, MapKept.run_getObj_map hb, hT.keyed.check w _ hl, hfind, MapKept.run_setObj_map _ hb]
    rfl
  refine wpListIn_unit rfl (by simp) (fun _ => trivial) hrun (h _ _ ⟨h1, ?_, r, ?_⟩)
  · exact h2.putOwn (fun ds e => by rw [hb] at e; cases e)
  · refine H.putMap hi (es' := es ++ [(v, t)]) ?_ ?_
    · simp [k1]
    · rw [List.map_append, Array.toList_push, List.map_append]
      exact k2.append ⟨hy, trivial⟩

/-- The very value of a struct of known cells. -/
theorem Imp.aggval {vs : List Value} : Imp (A.agg (vs.map A.val)) (A.val (.agg vs.toArray)) := fun r v ⟨us, e, k⟩ => by
  have : ∀ (l us : List Value), All2 r (l.map A.val) us → us = l := by
    intro l
    induction l with
    | nil => intro us h; cases us with
      | nil => rfl
      | cons _ _ => exact h.elim
    | cons x l ih => intro us h; cases us with
      | nil => exact h.elim
      | cons u us => rw [ih us h.2]; have : u = x := h.1; rw [this]
  have := this _ _ k
  subst e
  show _ = _
  congr 1
  rw [← this]
end

/-- The leaves of a key's type. -/
def lv (P : Program) : Nat → TypeId → Option (List TypeDesc)
  | 0, _ => none
  | d + 1, t =>
    match P.underlying t with
    | some .bool => some [.bool]
    | some (.int q) => some [.int q]
    | some (.array n e) => match lv P d e with
      | some l => if P.cellsOf e = l.length ∧ P.cellsOf t = n * l.length then some (List.replicate n l).flatten else none
      | none => none
    | some (.struct fs) => match lvf P (lv P d) 0 fs.toList with
      | some l => if P.cellsOf t = l.length ∧ fs.all (·.name != "_") = true then some l else none
      | none => none
    | _ => none
where lvf (P : Program) (rec : TypeId → Option (List TypeDesc)) : Nat → List Field → Option (List TypeDesc)
  | _, [] => some []
  | off, f :: fs => match rec f.type with
    | some l => if f.offset = off ∧ P.cellsOf f.type = l.length then match lvf P rec (off + l.length) fs with
      | some m => some (l ++ m)
      | none => none
      else none
    | none => none
def FitV : TypeDesc → Value → Prop
  | .bool, .bool _ => True
  | .int q, .int q' n => q' = q ∧ (Lit.int q n).wf = true
  | _, _ => False
def Fits : List TypeDesc → List Value → Prop
  | [], [] => True
  | d :: ds, v :: vs => FitV d v ∧ Fits ds vs
  | _, _ => False
theorem Fits.length : ∀ {ds : List TypeDesc} {vs : List Value}, Fits ds vs → ds.length = vs.length
  | [], [], _ => rfl
  | _ :: _, _ :: _, h => by simp [Fits.length h.2]
  | [], _ :: _, h => h.elim
  | _ :: _, [], h => h.elim
theorem Fits.append : ∀ {ds es : List TypeDesc} {vs us : List Value}, Fits ds vs → Fits es us → Fits (ds ++ es) (vs ++ us)
  | [], _, [], _, _, k => k
  | _ :: _, _, _ :: _, _, h, k => ⟨h.1, Fits.append h.2 k⟩
  | [], _, _ :: _, _, h, _ => h.elim
  | _ :: _, _, [], _, h, _ => h.elim
theorem Fits.split : ∀ {ds es : List TypeDesc} {vs : List Value}, Fits (ds ++ es) vs → Fits ds (vs.take ds.length) ∧ Fits es (vs.drop ds.length)
  | [], _, _, h => ⟨by simp [Fits], by simpa using h⟩
  | _ :: _, _, _ :: _, h => by
    obtain ⟨h2, h3⟩ := Fits.split h.2
    exact ⟨⟨h.1, by simpa using h2⟩, by simpa using h3⟩
  | _ :: _, _, [], h => h.elim
theorem mapM_some {S T : Type} {f : S → Option T} : ∀ {l : List S}, (∀ x ∈ l, ∃ y, f x = some y) → ∃ ys, l.mapM f = some ys
  | [], _ => ⟨[], rfl⟩
  | x :: l, h => by
    obtain ⟨y, hy⟩ := h x (by simp)
    obtain ⟨ys, hys⟩ := mapM_some (l := l) fun z hz => h z (by simp [hz])
    exact ⟨y :: ys, by simp [List.mapM_cons, hy, hys]⟩
theorem lvf_fits {P : Program} {rec : TypeId → Option (List TypeDesc)} : ∀ {fs : List Field} {off : Nat} {l : List TypeDesc} {cs : List Value}, lv.lvf P rec off fs = some l → Fits l (cs.drop off) →
    ∀ f ∈ fs, ∃ m, rec f.type = some m ∧ Fits m ((cs.drop f.offset).take (P.cellsOf f.type))
  | [], _, _, _, _, _ => fun f hf => by cases hf
  | f :: fs, off, l, cs, h, hf => by
    unfold lv.lvf at h
    split at h
    · rename_i m hm
      split at h
      · rename_i hc
        split at h
        · rename_i m2 hm2
          cases h
          obtain ⟨h1, h2⟩ := hf.split
          intro f' hf'
          rcases List.mem_cons.1 hf' with rfl | hf'
          · exact ⟨m, hm, by rw [hc.1, hc.2]; exact h1⟩
          · exact lvf_fits hm2 (by rwa [List.drop_drop] at h2) f' hf'
        · cases h
      · cases h
    · cases h
theorem fits_rep {l : List TypeDesc} : ∀ {n : Nat} {cs : List Value}, Fits (List.replicate n l).flatten cs → ∀ i, i < n → Fits l ((cs.drop (i * l.length)).take l.length)
  | 0, _, _, i, hi => by omega
  | n + 1, cs, h, i, hi => by
    rw [List.replicate_succ, List.flatten_cons] at h
    obtain ⟨h1, h2⟩ := h.split
    cases i with
    | zero => simpa using h1
    | succ i =>
      have := fits_rep h2 i (by omega)
      rwa [List.drop_drop, show l.length + i * l.length = (i + 1) * l.length from by rw [Nat.add_mul]; omega] at this
theorem keyLits_fits {P : Program} : ∀ (d : Nat) (t : TypeId) (l : List TypeDesc) (cs : List Value), lv P d t = some l → Fits l cs → ∃ L, P.keyLits d t cs = some L
  | 0, _, _, _, h, _ => by simp [lv] at h
  | d + 1, t, l, cs, h, hf => by
    unfold lv at h
    unfold Program.keyLits
    cases hu : P.underlying t with
    | none => simp [hu] at h
    | some kd =>
      cases kd
      case bool =>
        simp only [hu] at h; cases h
        match cs, hf with
        | [.bool b], _ => exact ⟨_, rfl⟩
      case int q =>
        simp only [hu] at h; cases h
        match cs, hf with
        | [.int q' n], ⟨h1, _⟩ =>
          obtain ⟨rfl, h1⟩ := h1
          exact ⟨_, by simp [h1]; rfl⟩
      case array n e =>
        simp only [hu] at h
        split at h
        · rename_i m hm
          split at h
          · rename_i hc
            cases h
            have hl : cs.length = P.cellsOf t := by rw [← hf.length, hc.2]; simp
            obtain ⟨ys, hys⟩ := mapM_some (f := fun i => P.keyLits d e ((cs.drop (i * P.cellsOf e)).take (P.cellsOf e))) (l := List.range n) fun i hi => by
              rw [hc.1]
              exact keyLits_fits d e m _ hm (fits_rep hf i (List.mem_range.1 hi))
            exact ⟨_, by simp only [hl, if_true, hys]; rfl⟩
          · cases h
        · cases h
      case struct fs =>
        simp only [hu] at h
        split at h
        · rename_i m hm
          split at h
          · rename_i hc
            cases h
            have hl : cs.length = P.cellsOf t := by rw [← hf.length, hc.1]
            obtain ⟨ys, hys⟩ := mapM_some (f := fun f : Field => P.keyLits d f.type ((cs.drop f.offset).take (P.cellsOf f.type))) (l := fs.toList) fun f hfm => by
              obtain ⟨m', h1, h2⟩ := lvf_fits hm (by simpa using hf) f hfm
              exact keyLits_fits d f.type m' _ h1 h2
            exact ⟨_, by simp only [hl, hc.2, and_self, if_true, hys]; rfl⟩
          · cases h
        · cases h
      all_goals (simp [hu] at h)
theorem keyOk_fits {P : Program} {k : TypeId} {l : List TypeDesc} {vs : List Value} (hk : P.keyType k = true) (hw : (match P.underlying k with | some (.array _ _) | some (.struct _) => true | _ => false) = true) (hl : lv P (P.types.size + 1) k = some l) (hc : P.cellsOf k = l.length) (hf : Fits l vs) : KeyOk P k (.agg vs.toArray) := by
  obtain ⟨L, hL⟩ := keyLits_fits _ _ _ _ hl hf
  have hformed : (Value.agg vs.toArray).formed P k = true := by
    unfold Value.formed
    split at hw <;> simp_all [hf.length]
  unfold KeyOk keyOf
  split at hw <;> simp_all [Value.cells]
end Go.L
