import Derived.Test.YtfjggobjijeniaaDrawA
/-! More rules on rooms and maps. -/
namespace Go.L
open Go Go.RowKit
theorem Pure.agg {l : List A} (h : AllPure l) : Pure (A.agg l) := fun r s v ⟨vs, e, k⟩ => ⟨vs, e, AllPure.all2 h k⟩
theorem Pure.aggv {vs : List Value} : Pure (A.agg (vs.map A.val)) := Pure.agg (AllPure.vals vs)
section
variable {E : Env} {g : Ctx} {Q : Exit → Act → World → Prop} {ops : Array Oper} {rest l : List Oper}
theorem W_cut2 {c c2 : Code} {T : Type} (ks io ir im : List Nat) (q : T → Prop) (J : T → List (Nat × Bool × A)) (M : T → Mem)
    (h1 : W E c g (Exit.then (fun a w => ∃ x, q x ∧ Holds E ⟨J x ++ keep g.sl ks, (M x).own ++ others io g.own, (M x).rooms ++ others ir g.rooms, (M x).maps ++ others im g.maps, g.objs, g.cps⟩ a w) Q))
    (h2 : ∀ x, q x → W E c2 ⟨J x ++ keep g.sl ks, (M x).own ++ others io g.own, (M x).rooms ++ others ir g.rooms, (M x).maps ++ others im g.maps, g.objs, g.cps⟩ Q) : W E c g (Exit.then (c2.wpIn (fz E.rnd) 9 E.P Q) Q) := by
  intro a w k
  refine wpIn_mono (h1 a w k) ?_
  intro e a' w' k'
  cases e with
  | normal => obtain ⟨x, hq, hH⟩ := k'; exact h2 x hq a' w' hH
  | _ => exact k'
/-- No cells as a room. -/
theorem WL_roomNil0 (e k : Nat) (h : WL E ops l { g with rooms := (.slice none 0 0, e, k) :: g.rooms } Q) : WL E ops l g Q := by
  intro a w ⟨h1, h2, r, H⟩
  refine h a w ⟨h1, h2, r, ?_⟩
  exact { H with
    room := fun x hx => by
      rcases List.mem_cons.1 hx with rfl | hx
      · unfold RoomOk; exact ⟨rfl, rfl⟩
      · exact H.room x hx
    roomB := fun x hx b e' => by
      rcases List.mem_cons.1 hx with rfl | hx
      · cases e'
      · exact H.roomB x hx b e'
    roomN := by simpa [List.filterMap_cons, roomBlock] using H.roomN }
theorem slv_nil {S : Type} {k : Nat} {f : S → List A} : Imp (A.val (.slice none 0 0)) (A.slv (.slice none 0 0) k f []) := fun r v h => ⟨h, Imp.nil r v h⟩
/-- A map from values to numbers. -/
def ints (es : List (Value × Int)) : List (Value × A) := es.map fun e => (e.1, A.int e.2)
theorem ints_keys (es : List (Value × Int)) : (ints es).map (·.1) = es.map (·.1) := by simp [ints]
theorem ints_ok {p : Value → Prop} {es : List (Value × Int)} (h : ∀ e ∈ es, p e.1) : ∀ y ∈ ints es, p y.1 := fun y hy => by
  obtain ⟨e, he, rfl⟩ := List.mem_map.1 hy; exact h e he
theorem ints_snoc (es : List (Value × Int)) (v : Value) (n : Int) : ints (es ++ [(v, n)]) = ints es ++ [(v, A.int n)] := by simp [ints]
theorem WL_lookupI (i : Nat) {d T k e : Nat} {m x : Operand} {ty : TypeId} {pos : String} {aft : Array Edge} {b : Nat} {es : List (Value × Int)} {v : Value} (hT : MapT E.P T k e) (hz : ∀ w, (zeroValue e).run E.P w = .ok (.int .i64 0) w)
    (hr : Reads g.sl true [(true, m, A.val (.map (some b))), (true, x, A.val v)]) (hi : g.maps[i]? = some (b, ints es)) (hk : ∀ y ∈ es, KeyOk E.P k y.1) (hn : (es.map (·.1)).Nodup) (hv : KeyOk E.P k v) (hd : Nat.ble (d + 1) E.n = true)
    (h : WL E ops rest { g with sl := (d, true, A.tup [A.int ((mfind es v).getD 0), A.bool (mfind es v).isSome]) :: g.sl } Q) :
    WL E ops (⟨some d, .lookup T m x true, ty, pos, aft, none⟩ :: rest) g Q := by
  refine WL_lookup i hT hz hr hi (ints_ok hk) (by rw [ints_keys]; exact hn) hv hd ?_
  unfold ints
  rw [mfind_map]
  cases hm : mfind es v with
  | none => rw [hm] at h; exact h
  | some u => rw [hm] at h; exact h
theorem WL_mapPutI (i : Nat) {T k e : Nat} {m x y : Operand} {ty : TypeId} {pos : String} {aft : Array Edge} {b : Nat} {es : List (Value × Int)} {v : Value} {n : Int} (hT : MapT E.P T k e)
    (hr : Reads g.sl true [(true, m, A.val (.map (some b))), (true, x, A.val v), (true, y, A.int n)]) (hi : g.maps[i]? = some (b, ints es)) (hk : ∀ y ∈ es, KeyOk E.P k y.1) (hv : KeyOk E.P k v) (hnew : mfind es v = none)
    (h : WL E ops rest { g with maps := g.maps.set i (b, ints (es ++ [(v, n)])) } Q) :
    WL E ops (⟨none, .mapUpdate T m x y, ty, pos, aft, none⟩ :: rest) g Q := by
  refine WL_mapPut i hT hr hi (ints_ok hk) hv (fun y hy e' => ?_) (by rw [← ints_snoc]; exact h)
  obtain ⟨q, hq, rfl⟩ := List.mem_map.1 hy
  have : ∀ l : List (Value × Int), q ∈ l → mfind l v = none → False := by
    intro l
    induction l with
    | nil => intro hq; cases hq
    | cons c l ih =>
      intro hq hn
      obtain ⟨k, t⟩ := c
      unfold mfind at hn
      split at hn
      · cases hn
      · rename_i hne
        rcases List.mem_cons.1 hq with h | h
        · subst h; exact hne e'
        · exact ih h hn
  exact this es hq hnew
end
end Go.L
