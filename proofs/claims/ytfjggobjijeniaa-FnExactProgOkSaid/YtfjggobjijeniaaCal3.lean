import Derived.Test.YtfjggobjijeniaaCal2
/-! Short forms of the rules; operations on owned slices and on what was handed over. -/
namespace Go.L
open Go Go.RowKit

theorem T1 {av : List (Nat × Bool × A)} {c b : Bool} {s : Nat} {x : A} (h : look av s = some (true, x)) : Read1 av c (b, .tmp s, x) := ⟨true, h, fun _ _ => rfl⟩
theorem C1 {av : List (Nat × Bool × A)} {c b : Bool} {v : Value} : Read1 av c (b, .const v, A.val v) := fun _ _ => rfl
theorem F1 {av : List (Nat × Bool × A)} {c b : Bool} {f : FuncId} : Read1 av c (b, .func f, A.val (.func (.func f) #[] #[])) := fun _ _ => rfl

section
variable {E : Env} {g : Ctx} {Q : Exit → Act → World → Prop} {ops : Array Oper} {rest : List Oper} {d s : Nat} {ty : TypeId} {pos : String} {aft : Array Edge} {t : A}
theorem WL_mv (hl : look g.sl s = some (true, t)) (hd : Nat.ble (d + 1) E.n = true) (h : WL E ops rest { g with sl := (d, true, t) :: g.sl } Q) : WL E ops (⟨some d, .move (.tmp s), ty, pos, aft, none⟩ :: rest) g Q :=
  WL_step (S_plain O_move ⟨T1 hl, trivial⟩ (by simp [slotIn, Op.operands]) hd) h
theorem WL_as (hl : look g.sl s = some (true, t)) (hd : Nat.ble (d + 1) E.n = true) (h : WL E ops rest { g with sl := (d, true, t) :: g.sl } Q) : WL E ops (⟨some d, .assign (.tmp s), ty, pos, aft, none⟩ :: rest) g Q :=
  WL_step (S_plain O_assign ⟨T1 hl, trivial⟩ (by simp [slotIn, Op.operands]) hd) h
theorem WL_mc {v : Value} (hd : Nat.ble (d + 1) E.n = true) (h : WL E ops rest { g with sl := (d, true, A.val v) :: g.sl } Q) : WL E ops (⟨some d, .move (.const v), ty, pos, aft, none⟩ :: rest) g Q :=
  WL_step (S_plain O_movec trivial rfl hd) h
theorem WL_ac {v : Value} (hd : Nat.ble (d + 1) E.n = true) (h : WL E ops rest { g with sl := (d, true, A.val v) :: g.sl } Q) : WL E ops (⟨some d, .assign (.const v), ty, pos, aft, none⟩ :: rest) g Q :=
  WL_step (S_plain O_assignc trivial rfl hd) h
theorem WL_u1 {op : Op} {x : Operand} {u : A} (ho : OpN E.P g.oc [(true, x, u)] op ty t) (hr : Read1 g.sl true (true, x, u)) (hs : slotIn x op.operands.toList = true) (hd : Nat.ble (d + 1) E.n = true) (h : WL E ops rest { g with sl := (d, true, t) :: g.sl } Q) :
    WL E ops (⟨some d, op, ty, pos, aft, none⟩ :: rest) g Q := WL_step (S_plain ho ⟨hr, trivial⟩ (by simp [hs]) hd) h
theorem WL_u2 {op : Op} {x y : Operand} {u v : A} (ho : OpN E.P g.oc [(true, x, u), (true, y, v)] op ty t) (hr : Read1 g.sl true (true, x, u)) (hr2 : Read1 g.sl true (true, y, v)) (hs : slotIn x op.operands.toList = true) (hs2 : slotIn y op.operands.toList = true) (hd : Nat.ble (d + 1) E.n = true)
    (h : WL E ops rest { g with sl := (d, true, t) :: g.sl } Q) :
    WL E ops (⟨some d, op, ty, pos, aft, none⟩ :: rest) g Q := WL_step (S_plain ho ⟨hr, hr2, trivial⟩ (by simp [hs, hs2]) hd) h

/-- The length of a slice, and that it is one. -/
theorem WL_len {T e k : Nat} {S : Type} {f : S → List A} {L : List S} (hT : TS E.P T e k) (hl : look g.sl s = some (true, A.sl k f L)) (hd : Nat.ble (d + 1) E.n = true)
    (h : L.length ≤ 9223372036854775807 → WL E ops rest { g with sl := (d, true, A.int L.length) :: g.sl } Q) :
    WL E ops (⟨some d, .call { callee := .builtin .len, args := #[.tmp s], argTypes := #[T] }, ty, pos, aft, none⟩ :: rest) g Q := by
  intro a w k
  obtain ⟨h1, h2, r, H⟩ := id k
  obtain ⟨p, len, cap, _, h3, h4, h5, _⟩ := (H.slots s true _ hl).1 rfl
  exact WL_step (S_plain (O_len hT) ⟨T1 hl, trivial⟩ (by simp [slotIn, Op.operands, Call.operands]) hd) (h (by simp only [maxLen] at h5; omega)) a w k

/-- A cut: what holds where ways meet. -/
theorem W_cut {c c2 : Code} {T : Type} (ks io ir im : List Nat) (q : T → Prop) (J : T → List (Nat × Bool × A)) (M : T → Mem)
    (h1 : W E c g (Exit.then (fun a w => ∃ x, q x ∧ Holds E ⟨J x ++ keep g.sl ks, (M x).own ++ others io g.own, (M x).rooms ++ others ir g.rooms, (M x).maps ++ others im g.maps, g.objs, g.cps⟩ a w) Q))
    (h2 : ∀ x, q x → W E c2 ⟨J x ++ keep g.sl ks, (M x).own ++ others io g.own, (M x).rooms ++ others ir g.rooms, (M x).maps ++ others im g.maps, g.objs, g.cps⟩ Q) : W E (.seq c c2) g Q := by
  intro a w k
  refine wpIn_seq (wpIn_mono (h1 a w k) ?_)
  intro e a' w' k'
  cases e with
  | normal => obtain ⟨x, hq, hH⟩ := k'; exact h2 x hq a' w' hH
  | _ => exact k'
theorem Fin_cut {T : Type} {ks : List Nat} {q : T → Prop} {J : T → List (Nat × Bool × A)} {M : T → Mem} {ow : Own} {rm : List (Value × Nat × Nat)} {mp : List (Nat × List (Value × A))} {g' : Ctx} {N : Exit → Act → World → Prop} (io : List Nat) (x' : T) (hq : q x') (h : Facts g'.sl (J x'))
    (hk : Kept g.sl g'.sl ks) (ho : OSub ((M x').own ++ ow) (picks io g'.own)) (hi : decide io.Nodup = true) (hr : ((M x').rooms ++ rm).Sublist g'.rooms) (hmm : (M x').maps ++ mp = g'.maps) (hob : g.objs = g'.objs := by rfl) (hc : g.cps = g'.cps := by rfl) :
    Fin E g' .normal (Exit.then (fun a w => ∃ x', q x' ∧ Holds E ⟨J x' ++ keep g.sl ks, (M x').own ++ ow, (M x').rooms ++ rm, (M x').maps ++ mp, g.objs, g.cps⟩ a w) N) := by
  intro a w ⟨h1, h2, r, H⟩
  have hmem := (MemOk.picks H io [] [] (m := ⟨picks io g'.own, [], []⟩) (of_decide_eq_true hi) List.nodup_nil List.nodup_nil OSub.refl rfl rfl)
  have H1 : HoldsAt E { g' with own := picks io g'.own } r a w := H.reown (fun x hx => mem_picks hx) hmem.nodO
  exact ⟨x', hq, Holds.less ⟨h1, h2, r, H1⟩ (Facts.append h (Facts.keep hk)) ho hr hmm hob (fun c h => hc ▸ h)⟩
end

section
variable {P : Program} {own : OC} {ty : TypeId} {x i : Operand} {T e k off : Nat} {c : Rho}
/-- The place of an element of an own slice. -/
theorem O_indexo {b n cap : Nat} {m : Int} (h : TS P T e k) (hb : 0 ≤ m ∧ m < n) :
    OpN P own [(true, x, A.os b n cap), (true, i, A.int m)] (.indexAddr T x i) ty (A.val (.pointer (some ⟨b, m.toNat * k, none⟩))) := fun r w a hok _ hn => by
  have hx : a.eval x = .slice (some ⟨b, 0, none⟩) n cap := hn (true, x, A.os b n cap) (by simp) rfl
  have hi : a.eval i = .int .i64 m := hn (true, i, A.int m) (by simp) rfl
  simp only [exec, execOp, hx, hi, Sem.run_bind, run_indexAt h hb.1 hb.2, Result.andThen_ok, Sem.run_pure]
  exact Good.here hok (by rw [Nat.zero_add]; rfl)
theorem O_lenv {p : Option Addr} {n cap : Nat} (h : TS P T e k) : OpN P own [(true, x, A.val (.slice p n cap))] (.call { callee := .builtin .len, args := #[x], argTypes := #[T] }) ty (A.int n) := fun r w a hok _ hn => by
  have hx : a.eval x = .slice p n cap := hn (true, x, A.val (.slice p n cap)) (List.mem_singleton.2 rfl) rfl
  simp only [exec, execOp, resolve, Sem.run_bind, Sem.run_pure, Result.andThen_ok, invoke, builtin]
  simp only [List.map_toArray, List.map_cons, List.map_nil, hx, run_len_sl h, Result.andThen_ok]
  exact Good.here hok rfl

/-- What is handed over: places of elements, of fields, headers. -/
theorem O_indexn {S : Type} [Inhabited S] {f : S → List A} {L : List S} {n : Int} (h : TS P T e k) (hb : 0 ≤ n ∧ n < L.length) :
    OpN P own [(true, x, A.nw c (A.sl k f L)), (true, i, A.int n)] (.indexAddr T x i) ty (A.nw c (A.pt (f (idx L n)))) := fun r w a hok _ hn => by
  obtain ⟨hcr, p, len, cap, hx, h1, h2, h3, h4⟩ := hn (true, x, A.nw c (A.sl k f L)) (by simp) rfl
  have hx : a.eval x = .slice p len cap := hx
  have hi : a.eval i = .int .i64 n := hn (true, i, A.int n) (by simp) rfl
  subst h1
  obtain ⟨b, o, rfl, hc⟩ := h4 (fun e => by rw [e] at hb; simp at hb; omega)
  simp only [exec, execOp, hx, hi, Sem.run_bind, run_indexAt h hb.1 hb.2, Result.andThen_ok, Sem.run_pure]
  exact Good.here hok ⟨hcr, b, _, rfl, hc n.toNat _ (idx_get hb.1 hb.2)⟩
theorem O_fieldn {j : Nat} {cells : List A} (h : TF P T j off) : OpN P own [(true, x, A.nw c (A.pt cells))] (.fieldAddr T x j) ty (A.nw c (A.pt (cells.drop off))) := fun r w a hok _ hn => by
  obtain ⟨hcr, b, o, hx, hc⟩ := hn (true, x, A.nw c (A.pt cells)) (by simp) rfl
  have hx : a.eval x = .pointer (some ⟨b, o, none⟩) := hx
  simp only [exec, execOp, hx, Sem.run_bind, run_fieldAt h, Result.andThen_ok, Sem.run_pure]
  refine Good.here hok ⟨hcr, b, o + off, rfl, fun i c hi => ?_⟩
  have := hc (off + i) c (by simpa using hi)
  rwa [Nat.add_assoc]
theorem O_loadn {u : A} {cells : List A} (h : TA P T) : OpN P own [(true, x, A.nw c (A.pt (u :: cells)))] (.load T x) ty (A.nw c u) := fun r w a hok _ hn => by
  obtain ⟨hcr, b, o, hx, hc⟩ := hn (true, x, A.nw c (A.pt (u :: cells))) (by simp) rfl
  have hx : a.eval x = .pointer (some ⟨b, o, none⟩) := hx
  obtain ⟨v, hv, hp⟩ := hc 0 u (by simp)
  rw [Nat.add_zero] at hv
  simp only [exec, execOp, hx, Sem.run_bind, run_loadAt_atom h (hok.cell (Rho.minus_le _ _ _ _ hv)), Result.andThen_ok, Sem.run_pure]
  exact Good.here hok ⟨hcr, hp⟩
theorem O_lenn {S : Type} {f : S → List A} {L : List S} (h : TS P T e k) : OpN P own [(true, x, A.nw c (A.sl k f L))] (.call { callee := .builtin .len, args := #[x], argTypes := #[T] }) ty (A.int L.length) := fun r w a hok ho hn => by
  obtain ⟨hcr, hk⟩ := hn (true, x, A.nw c (A.sl k f L)) (by simp) rfl
  refine O_len (own := own) (f := f) (L := L) h r w a hok ho (fun z hz _ => ?_)
  rcases List.mem_singleton.1 hz with rfl
  exact (A.sl k f L).mono (Rho.minus_le _ _) hk

/-- Division and rest. -/
theorem O_remt {y : Operand} {m n : Int} {T2 : TypeId} (hn0 : n ≠ 0) : OpN P own [(true, x, A.int m), (true, y, A.int n)] (.binOp .rem T x y T2) ty (A.int (m.tmod n)) := fun r w a hok _ hn => by
  obtain ⟨hx, hy⟩ := int2 hn
  simp [exec, execOp, hx, hy, eqGuard, binOp, Op.intDiv, hn0]
  exact Good.here hok rfl
theorem O_rem {y : Operand} {m n : Int} {T2 : TypeId} (hm : 0 ≤ m) (hn0 : n ≠ 0) : OpN P own [(true, x, A.int m), (true, y, A.int n)] (.binOp .rem T x y T2) ty (A.int (m % n)) := by
  have := O_remt (P := P) (own := own) (ty := ty) (x := x) (T := T) (y := y) (m := m) (T2 := T2) hn0
  rwa [Int.tmod_eq_emod_of_nonneg hm] at this
theorem O_quo {y : Operand} {m n : Int} {T2 : TypeId} (hm : 0 ≤ m) (hn0 : 0 < n) (hi : inI m) : OpN P own [(true, x, A.int m), (true, y, A.int n)] (.binOp .quo T x y T2) ty (A.int (m / n)) := fun r w a hok _ hn => by
  obtain ⟨hx, hy⟩ := int2 hn
  have h1 : n ≠ 0 := by omega
  have h2 : m.tdiv n = m / n := Int.tdiv_eq_ediv_of_nonneg hm
  have h3 : inI (m / n) := by
    have h4 := Int.ediv_nonneg hm (show 0 ≤ n by omega)
    have h5 : m / n ≤ m := Int.ediv_le_self _ hm
    unfold inI at *; omega
  simp [exec, execOp, hx, hy, eqGuard, binOp, Op.intDiv, h1, h2, wrap_in h3]
  exact Good.here hok rfl
/-- A byte as a number. -/
theorem O_conv8 {n : Int} {S D : TypeId} (hS : P.underlying S = some (.int .u8)) (hD : P.underlying D = some (.int .i64)) (hi : inI n) : OpN P own [(true, x, A.u8 n)] (.convert S D x) ty (A.int n) := fun r w a hok _ hn => by
  have hx : a.eval x = .int .u8 n := hn (true, x, A.u8 n) (by simp) rfl
  simp [exec, execOp, hx, convert, run_underlying hS, run_underlying hD, Conv.intToInt, wrap_in hi]
  exact Good.here hok rfl
end
end Go.L
