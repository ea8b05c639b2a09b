import Derived.Test.YtfjggobjijeniaaCal6
/-! Returns with memory; what is lent and taken. -/
namespace Go.L
open Go Go.RowKit

theorem MemOk.osub {r : Rho} {w : World} {m : Mem} {own' : Own} {rooms' : List (Value × Nat × Nat)} {maps' : List (Nat × List (Value × A))} (h : MemOk r w m) (ho : OSub own' m.own) (hr : rooms'.Sublist m.rooms) (hm : maps'.Sublist m.maps) : MemOk r w ⟨own', rooms', maps'⟩ :=
  ⟨ho.ok h.own, fun x hx => h.room x (hr.subset hx), fun x hx => h.maps x (hm.subset hx), fun x hx => h.mapu x (hm.subset hx), h.nodO.sublist ho.fst, fun x hx b hb hq => h.roomD x (hr.subset hx) b hb (ho.fst.subset hq), h.nodR.sublist (hr.filterMap _), h.nodM.sublist (hm.map _)⟩
theorem Mem.blk_sub {m : Mem} {own' : Own} {rooms' : List (Value × Nat × Nat)} {maps' : List (Nat × List (Value × A))} (ho : OSub own' m.own) (hr : rooms'.Sublist m.rooms) (hm : maps'.Sublist m.maps) {b : Nat} (h : Mem.blk ⟨own', rooms', maps'⟩ b) : m.blk b := by
  rcases h with h | h | h
  · exact .inl (ho.fst.subset h)
  · exact .inr (.inl ((hr.filterMap _).subset h))
  · exact .inr (.inr ((hm.map _).subset h))
theorem WL_lenn {E : Env} {g : Ctx} {Q : Exit → Act → World → Prop} {ops : Array Oper} {rest : List Oper} {d s : Nat} {ty : TypeId} {pos : String} {aft : Array Edge} {T e k : Nat} {S : Type} {f : S → List A} {L : List S} {c : Rho} (hT : TS E.P T e k) (hl : look g.sl s = some (true, A.nw c (A.sl k f L))) (hd : Nat.ble (d + 1) E.n = true)
    (h : L.length ≤ 9223372036854775807 → WL E ops rest { g with sl := (d, true, A.int L.length) :: g.sl } Q) :
    WL E ops (⟨some d, .call { callee := .builtin .len, args := #[.tmp s], argTypes := #[T] }, ty, pos, aft, none⟩ :: rest) g Q := by
  intro a w k
  obtain ⟨h1, h2, r, H⟩ := id k
  obtain ⟨_, p, len, cap, _, h3, h4, h5, _⟩ := (H.slots s true _ hl).1 rfl
  exact WL_step (S_plain (O_lenn hT) ⟨T1 hl, trivial⟩ (by simp [slotIn, Op.operands, Call.operands]) hd) (h (by simp only [maxLen] at h5; omega)) a w k
section
variable {P : Program} {n : Nat} {w0 : World} {r0 : Rho} {g : Ctx} {fn : Func} {e : Exit}
/-- The blocks io, in their order, go back to the caller. -/
theorem RetXs {T : Type} {m : Mem} {t : T → A} {m' : T → Mem} (io : List Nat) (x : T) (he : isRet e = true) (hv : ResOk (EX P n w0 r0 m.blk) g.bare fn (t x)) (ho : OSub (m' x).own (picks io g.own)) (hi : decide io.Nodup = true) (hr : (m' x).rooms.Sublist g.rooms) (hm : (m' x).maps.Sublist g.maps) :
    Fin (EX P n w0 r0 m.blk) g e (bodyPostM (fz none) 9 P fn (RetX m r0 w0 t m')) :=
  RetX_ x he hv (fun r a w H => by
      have h1 := MemOk.picks H io [] [] (m := ⟨picks io g.bare.own, [], []⟩) (of_decide_eq_true hi) List.nodup_nil List.nodup_nil OSub.refl rfl rfl
      have H1 : HoldsAt _ { g.bare with own := picks io g.own } r a w := H.reown (fun x hx => mem_picks hx) h1.nodO
      exact H1.memOk.osub ho hr hm) (fun b h => by
      have := Mem.blk_sub (m := ⟨picks io g.own, g.rooms, g.maps⟩) ho hr hm (b := b) h
      rcases this with h | h | h
      · obtain ⟨y, hy, e⟩ := List.mem_map.1 h
        exact .inl (List.mem_map.2 ⟨y, mem_picks hy, e⟩)
      · exact .inr (.inl h)
      · exact .inr (.inr h))
end
end Go.L
