import Derived.Test.YtfjggobjijeniaaArr
import Derived.Lib.AppendZeros
/-! slices.Grow of nil: append of made zeros; a slice of a slice's room. -/
namespace Go.L
open Go Go.RowKit
section
variable {P : Program} {own : OC} {ty T : TypeId} {x hi : Operand} {e k : Nat}
theorem O_capv {p : Option Addr} {n cap : Nat} (h : TS P T e k) : OpN P own [(true, x, A.val (.slice p n cap))] (.call { callee := .builtin .cap, args := #[x], argTypes := #[T] }) ty (A.int cap) := fun r w a hok _ hn => by
  have hx : a.eval x = .slice p n cap := hn (true, x, A.val (.slice p n cap)) (List.mem_singleton.2 rfl) rfl
  have hr : (Builtin.cap_ #[T] ty #[.slice p n cap]).run P w = .ok (.int .i64 cap) w := by
    simp [Builtin.cap_, run_underlying h.under, goInt]
  simp only [exec, execOp, resolve, Sem.run_bind, Sem.run_pure, Result.andThen_ok, invoke, builtin]
  simp only [List.map_toArray, List.map_cons, List.map_nil, hx, hr, Result.andThen_ok]
  exact Good.here hok rfl
theorem O_slice0n (h : TS P T e k) : OpN P own [(true, x, A.val (.slice none 0 0)), (true, hi, A.int 0)] (.slice T x none (some hi) none) ty (A.val (.slice none 0 0)) := fun r w a hok _ hn => by
  have hx : a.eval x = .slice none 0 0 := hn (true, x, A.val (.slice none 0 0)) (by simp) rfl
  have hj : a.eval hi = .int .i64 0 := hn (true, hi, A.int 0) (by simp) rfl
  have hr := run_slice_h (P := P) (w := w) T none 0 0 h.elem .i64 0 (by omega) (by omega)
  have hz : sizeAt P (P.elem T) = some k := by rw [h.elem_eq]; exact h.2
  simp only [exec, execOp, hx, hj, Sem.run_bind, Option.map_some, Option.map_none, run_sliceAt_slice (P := P) w T _ _ _ _ h.elem, hr, run_sizeOf hz, Result.andThen_ok, Sem.run_pure]
  exact Good.here hok rfl
theorem O_slice0v {b n cap : Nat} (h : TS P T e k) : OpN P own [(true, x, A.val (.slice (some ⟨b, 0, none⟩) n cap)), (true, hi, A.int 0)] (.slice T x none (some hi) none) ty (A.val (.slice (some ⟨b, 0, none⟩) 0 cap)) := fun r w a hok _ hn => by
  have hx : a.eval x = .slice (some ⟨b, 0, none⟩) n cap := hn (true, x, A.val (.slice (some ⟨b, 0, none⟩) n cap)) (by simp) rfl
  have hj : a.eval hi = .int .i64 0 := hn (true, hi, A.int 0) (by simp) rfl
  have hr := run_slice_h (P := P) (w := w) T (some ⟨b, 0, none⟩) n cap h.elem .i64 0 (by omega) (by omega)
  have hz : sizeAt P (P.elem T) = some k := by rw [h.elem_eq]; exact h.2
  simp only [exec, execOp, hx, hj, Sem.run_bind, Option.map_some, Option.map_none, run_sliceAt_slice (P := P) w T _ _ _ _ h.elem, hr, run_sizeOf hz, Result.andThen_ok, Sem.run_pure]
  refine Good.here hok ?_
  show sliced _ _ _ _ _ = _
  simp [sliced, Addr.add]
end
section
variable {E : Env} {g : Ctx} {Q : Exit → Act → World → Prop} {ops : Array Oper} {rest : List Oper}
theorem slv_room {S : Type} {b cap k : Nat} {f : S → List A} (h : cap ≤ maxLen) : Imp (A.val (.slice (some ⟨b, 0, none⟩) 0 cap)) (A.slv (.slice (some ⟨b, 0, none⟩) 0 cap) k f []) := fun r v hv => ⟨hv, _, 0, cap, hv, rfl, Nat.zero_le _, h, fun h => absurd rfl h⟩
/-- Append of made zeros to nil: its slice of length 0 has room. -/
theorem WL_growZ {d t tn ty e k bytes : Nat} {x y : Operand} {pos : String} {aft : Array Edge} {n : Int} (hT : TE E.P t e k bytes) (htn : E.P.underlying tn = some (.int .i64)) (hk : 0 < k) (hr : Reads g.sl true [(true, x, A.val (.slice none 0 0)), (true, y, A.int n)])
    (h0 : 0 < n) (hb : n.toNat * bytes ≤ 140737488355328) (h63 : n ≤ maxLen) (hd : Nat.ble (d + 1) E.n = true)
    (h : ∀ b cap, cap ≤ maxLen → WL E ops rest { g with sl := (d, true, A.val (.slice (some ⟨b, 0, none⟩) n.toNat cap)) :: g.sl, rooms := (.slice (some ⟨b, 0, none⟩) 0 cap, e, k) :: g.rooms } Q) :
    WL E ops (⟨some d, .call { callee := .builtin .append, args := #[x, y], argTypes := #[t, tn] }, ty, pos, aft, none⟩ :: rest) g Q := by
  intro a w ⟨h1, h2, r, H⟩
  have hread := hr.use rfl (r := r) (a := a) (fun s c x e => H.slots s c x e)
  have hx : a.eval x = .slice none 0 0 := hread (true, x, A.val (.slice none 0 0)) (by simp) rfl
  have hy : a.eval y = .int .i64 n := hread (true, y, A.int n) (by simp) rfl
  obtain ⟨ht, i, z, hi, hz, rfl, rfl, hzs⟩ := hT
  have hn63 : (n.toNat : Int) ≤ 9223372036854775807 := by simp only [maxLen] at h63; omega
  have hrun := Go.Lib.run_append_nil_zeros (P := E.P) w t tn ty e i z .i64 .i64 ht htn hi hz n.toNat (by omega) hk hn63 (by omega)
  have en : ((n.toNat : Nat) : Int) = n := by omega
  rw [en] at hrun
  have hcap1 := grownCap_ge w n.toNat 0 e
  have hcap2 := grownCap_le_maxLen w n.toNat 0 e (by simp only [maxLen] at h63 ⊢; omega)
  have hexec : (execOp a.eval ⟨some d, .call { callee := .builtin .append, args := #[x, y], argTypes := #[t, tn] }, ty, pos, aft, none⟩).run E.P w =
      .ok (.value (.slice (some ⟨w.heap.size, 0, none⟩) n.toNat (grownCap w n.toNat 0 e))) (w.drew.alloc (.cells (Builtin.zeroCells z.cells n.toNat ++ Builtin.zeroCells z.cells (grownCap w n.toNat 0 e - n.toNat)) e)) := by
    simp only [execOp, resolve, invoke, builtin, Sem.run_bind, Sem.run_pure, Result.andThen_ok, List.map_toArray, List.map_cons, List.map_nil, hx, hy, hrun]
  have gr : Grow r w r (w.drew.alloc (.cells (Builtin.zeroCells z.cells n.toNat ++ Builtin.zeroCells z.cells (grownCap w n.toNat 0 e - n.toNat)) e)) := Grow.same H.ok (((Below.refl _ _).drew).alloc (Nat.le_refl _) _)
  refine wpListIn_value rfl (by simp) (fun _ => trivial) hexec (h w.heap.size _ hcap2 _ _ ⟨by rw [size_put]; exact h1, ?_, r, ?_⟩)
  · rw [defers_put]; exact h2.grow H gr
  · have hlt : d < a.tmps.size := by rw [h1]; exact Nat.le_of_ble_eq_true hd
    have H' := H.grow gr (a' := a) H.slots
    exact { H' with
      slots := Slots.put H'.slots hlt (fun _ => rfl) (fun hc => by cases hc)
      room := fun x hx => by
        rcases List.mem_cons.1 hx with rfl | hx
        · refine ⟨rfl, rfl, Nat.zero_le _, hcap2, ⟨_, World.alloc_heap_new w.drew _, ?_⟩, fun o sp _ => ?_⟩
          · simp only [Array.size_append, size_zeroCells, hzs]
            rw [← Nat.add_mul]; congr 1; omega
          cases e' : r _ with
          | none => rfl
          | some v => exact absurd (Rho.ok_lt H.ok e') (by simp)
        · exact H'.room x hx
      roomB := fun x hx b hb => by
        rcases List.mem_cons.1 hx with rfl | hx
        · cases hb
          refine ⟨.inr H.size, fun hm => ?_⟩
          obtain ⟨y, hy, e'⟩ := List.mem_map.1 hm
          have := (H.own y hy).lt
          have e'' : y.1 = w.heap.size := e'
          omega
        · exact H'.roomB x hx b hb
      roomN := by
        rw [List.filterMap_cons]
        show (w.heap.size :: _).Nodup
        rw [List.nodup_cons]
        refine ⟨fun hm => ?_, H'.roomN⟩
        obtain ⟨y, hy, e'⟩ := List.mem_filterMap.1 hm
        have := (H.room y hy).lt e'
        omega }
end
end Go.L
