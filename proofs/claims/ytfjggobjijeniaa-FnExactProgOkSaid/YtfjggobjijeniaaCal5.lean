import Derived.Test.YtfjggobjijeniaaCal4
/-! Arrays, lent slices, boxes of one's own. -/
namespace Go.L
open Go Go.RowKit

section
variable {P : Program} {own : OC} {ty : TypeId} {x i : Operand} {T e k n off : Nat} {c : Rho}
theorem OpN.pre1 {b : Bool} {need : Need} {op : Op} {t u u' : A} (h : OpN P own ((b, x, u) :: need) op ty t) (k : Imp u' u) : OpN P own ((b, x, u') :: need) op ty t := fun r w a hok ho hn =>
  h r w a hok ho fun z hz hb => by
    rcases List.mem_cons.1 hz with rfl | hz
    · exact k _ _ (hn (b, x, u') (List.mem_cons_self ..) hb)
    · exact hn z (List.mem_cons_of_mem _ hz) hb
theorem O_loadgw {cells : List A} (h : TG P T n) (hl : cells.length = n) : OpN P own [(true, x, A.pt cells)] (.load T x) ty (A.agg cells) := by
  have := O_loadg (P := P) (own := own) (ty := ty) (x := x) h (cells := cells) (by omega)
  rwa [← hl, List.take_length] at this
/-- An array type of n elements e of k cells. -/
def TAr (P : Program) (t n e k : Nat) : Prop := P.underlying t = some (.array n e) ∧ sizeAt P e = some k
theorem run_indexAtArr {w : World} (h : TAr P T n e k) {b o : Nat} {m : Int} (h0 : 0 ≤ m) (h1 : m < n) :
    (Instr.indexAt T (.pointer (some ⟨b, o, none⟩)) (.int .i64 m)).run P w = .ok (.pointer (some ⟨b, o + m.toNat * k, none⟩)) w := by
  simp [Instr.indexAt, asIntOf, run_underlying h.1, run_sizeOf h.2, Instr.sureAddr, h0, h1, add_off]
theorem O_indexarro {b o : Nat} {m : Int} (h : TAr P T n e k) (hb : 0 ≤ m ∧ m < n) :
    OpN P own [(true, x, A.val (.pointer (some ⟨b, o, none⟩))), (true, i, A.int m)] (.indexAddr T x i) ty (A.val (.pointer (some ⟨b, o + m.toNat * k, none⟩))) := fun r w a hok _ hn => by
  have hx : a.eval x = .pointer (some ⟨b, o, none⟩) := hn (true, x, _) (List.mem_cons_self ..) rfl
  have hi : a.eval i = .int .i64 m := hn (true, i, A.int m) (by simp) rfl
  simp only [exec, execOp, hx, hi, Sem.run_bind, run_indexAtArr h hb.1 hb.2, Result.andThen_ok, Sem.run_pure]
  exact Good.here hok rfl
theorem O_indexarr {cells : List A} {m : Int} (h : TAr P T n e k) (hb : 0 ≤ m ∧ m < n) :
    OpN P own [(true, x, A.pt cells), (true, i, A.int m)] (.indexAddr T x i) ty (A.pt (cells.drop (m.toNat * k))) := fun r w a hok _ hn => by
  obtain ⟨b, o, hx, hc⟩ := hn (true, x, A.pt cells) (by simp) rfl
  have hx : a.eval x = .pointer (some ⟨b, o, none⟩) := hx
  have hi : a.eval i = .int .i64 m := hn (true, i, A.int m) (by simp) rfl
  simp only [exec, execOp, hx, hi, Sem.run_bind, run_indexAtArr h hb.1 hb.2, Result.andThen_ok, Sem.run_pure]
  refine Good.here hok ⟨b, o + m.toNat * k, rfl, fun j c hj => ?_⟩
  have := hc (m.toNat * k + j) c (by simpa using hj)
  rwa [Nat.add_assoc]
theorem O_nilCheckn {l : List A} : OpN P own [(true, x, A.nw c (A.pt l))] (.nilCheck x) ty (A.nw c (A.pt l)) := fun r w a hok _ hn => by
  have h0 := hn (true, x, A.nw c (A.pt l)) (by simp) rfl
  obtain ⟨_, b, o, hx, _⟩ := id h0
  have hx : a.eval x = .pointer (some ⟨b, o, none⟩) := hx
  rw [hx] at h0
  simp only [exec, execOp, hx, Sem.run_pure]
  exact Good.here hok h0
end
theorem AllOne.nw {c : Rho} : ∀ {l : List A}, AllOne l → CellsOf (A.nw c (A.agg l)) (l.map (A.nw c)) := fun {l} h r v k => by
  obtain ⟨vs, e, q⟩ := Imp.nwagg _ _ k
  subst e
  refine ⟨q, ?_⟩
  have : ∀ (l : List A) (us : List Value), AllOne l → All2 r (l.map (A.nw c)) us → ∀ u ∈ us, u.oneCell' = true := by
    intro l
    induction l with
    | nil => intro us _ q; cases us with
      | nil => simp
      | cons _ _ => exact q.elim
    | cons t l ih => intro us h q; cases us with
      | nil => simp
      | cons u us =>
        intro z hz
        rcases List.mem_cons.1 hz with rfl | hz
        · exact (h.1 _ z q.1.2).2
        · exact ih us h.2 q.2 z hz
  exact this _ _ h q
theorem Lend.os {O : Own} (j : Nat) {b ty n cap k : Nat} {cells : List A} {S : Type} {f : S → List A} {L : List S} (hi : nth O j = some (b, ty, cells)) (hn : n = L.length) (h1 : n ≤ cap) (h2 : cap ≤ maxLen)
    (hk : ∀ y, (f y).length = k) (hc : AllImp (L.flatMap f) (cells.take (L.flatMap f).length)) : Lend O (A.os b n cap) (A.sl k f L) := fun r v hO hv => by
  have hv : v = _ := hv
  subst hv
  rw [nth_eq] at hi
  have hat := hO _ (List.mem_of_getElem? hi)
  refine ⟨_, _, _, rfl, hn, h1, h2, fun _ => ⟨b, 0, rfl, ?_⟩⟩
  refine rows_of_flat (fun y _ => hk y) (AllImp.cellsAt hc fun i c hc => hat i c ?_)
  rw [List.getElem?_take] at hc
  split at hc
  · exact hc
  · cases hc
theorem Lend.op {O : Own} (j : Nat) {b ty : Nat} {cells l : List A} (hi : nth O j = some (b, ty, cells)) (hc : AllImp l cells) : Lend O (A.val (.pointer (some ⟨b, 0, none⟩))) (A.pt l) := fun r v hO hv => by
  have hv : v = _ := hv
  subst hv
  rw [nth_eq] at hi
  exact ⟨b, 0, rfl, AllImp.cellsAt hc (hO _ (List.mem_of_getElem? hi))⟩
section
variable {E : Env} {g : Ctx} {Q : Exit → Act → World → Prop} {ops : Array Oper} {rest : List Oper} {d s : Nat} {ty : TypeId} {pos : String} {aft : Array Edge} {t : A}
/-- A variable of one's own, with a value. -/
theorem WL_boxo {T : Nat} {x : Operand} {u : A} {cells : List A} (hc : CellsOf u cells) (hr : Read1 g.sl true (true, x, u)) (hd : Nat.ble (d + 1) E.n = true)
    (h : ∀ b, WL E ops rest { g with sl := (d, true, A.val (.pointer (some ⟨b, 0, none⟩))) :: g.sl, own := (b, T, cells) :: g.own } Q) : WL E ops (⟨some d, .box T x, ty, pos, aft, none⟩ :: rest) g Q := by
  intro a w ⟨h1, h2, r, H⟩
  have hu : u.p r (a.eval x) := (Reads.use (l := [(true, x, u)]) ⟨hr, trivial⟩ rfl H.slots) (true, x, u) (by simp) rfl
  obtain ⟨k1, _⟩ := hc r _ hu
  have hrun : (execOp a.eval ⟨some d, .box T x, ty, pos, aft, none⟩).run E.P w = .ok (.value (.pointer (some ⟨w.heap.size, 0, none⟩))) (w.alloc (.cells (a.eval x).cells T)) := by
    simp [execOp, Instr.box, run_newVar]
  refine wpListIn_value rfl (by simp) (fun _ => trivial) hrun (h w.heap.size _ _ ⟨by rw [size_put]; exact h1, ?_, r, ?_⟩)
  · rw [defers_put]; exact h2.grow H (Grow.same H.ok ((Below.refl _ _).alloc (Nat.le_refl _) _))
  · have hlt : d < a.tmps.size := by rw [h1]; exact Nat.le_of_ble_eq_true hd
    have H' := H.allocOwn (a.eval x).cells T (cells := cells) k1
    exact { H' with slots := Slots.put H'.slots hlt (fun _ => rfl) (fun hc => by cases hc) }
theorem WL_lenr {T e k : Nat} {S : Type} {f : S → List A} {L : List S} {v : Value} (hT : TS E.P T e k) (hl : look g.sl s = some (true, A.slv v k f L)) (hd : Nat.ble (d + 1) E.n = true)
    (h : L.length ≤ 9223372036854775807 → WL E ops rest { g with sl := (d, true, A.int L.length) :: g.sl } Q) :
    WL E ops (⟨some d, .call { callee := .builtin .len, args := #[.tmp s], argTypes := #[T] }, ty, pos, aft, none⟩ :: rest) g Q := by
  intro a w k
  obtain ⟨h1, h2, r, H⟩ := id k
  obtain ⟨_, p, len, cap, _, h3, h4, h5, _⟩ := (H.slots s true _ hl).1 rfl
  exact WL_step (S_plain ((O_len hT).pre1 Imp.slv) ⟨T1 hl, trivial⟩ (by simp [slotIn, Op.operands, Call.operands]) hd) (h (by simp only [maxLen] at h5; omega)) a w k
end
end Go.L
