import Derived.Test.YtfjggobjijeniaaDraw
/-! What single operations give: 'OpN' at each kind of operation. -/
namespace Go.L
open Go Go.RowKit

def atomic : TypeDesc → Bool
  | .struct _ | .array .. => false
  | _ => true
def elemOf? : TypeDesc → Option TypeId
  | .slice e => some e
  | _ => none
def sizeAt (P : Program) (t : TypeId) : Option Nat := (P.info? t).map (·.size)
/-- A type of one cell. -/
def TA (P : Program) (t : TypeId) : Prop := (P.underlying t).map atomic = some true
/-- A struct or an array of n cells. -/
def TG (P : Program) (t : TypeId) (n : Nat) : Prop := (P.underlying t).map atomic = some false ∧ sizeAt P t = some n
/-- A slice type of elements e of k cells. -/
def TS (P : Program) (t e k : Nat) : Prop := (P.underlying t).bind elemOf? = some e ∧ sizeAt P e = some k
def fieldOff (P : Program) (s i : Nat) : Option Nat :=
  match P.underlying s with
  | some (.struct fs) => match fs[i]? with
    | some f => match sizeAt P f.type with
      | some (_ + 1) => some f.offset
      | _ => none
    | none => none
  | _ => none
def TF (P : Program) (s i off : Nat) : Prop := fieldOff P s i = some off

section
variable {P : Program} {w : World}
theorem run_underlying {t : TypeId} {d : TypeDesc} (h : P.underlying t = some d) : (underlying t).run P w = .ok d w := by
  simp [underlying, h]
theorem run_sizeOf {t : TypeId} {n : Nat} (h : sizeAt P t = some n) : (sizeOf t).run P w = .ok n w := by
  unfold sizeAt at h
  cases hi : P.info? t with
  | none => simp [hi] at h
  | some i => simp [hi] at h; simp [sizeOf, typeInfo, hi, h]
theorem TA.isAgg {t : TypeId} (h : TA P t) : (isAgg t).run P w = .ok false w := by
  unfold TA at h
  cases hd : P.underlying t with
  | none => simp [hd] at h
  | some d =>
    simp [hd] at h
    simp only [Go.isAgg, Sem.run_bind, run_underlying hd, Result.andThen_ok]
    cases d <;> simp_all [atomic]
theorem TG.isAgg {t n : Nat} (h : TG P t n) : (isAgg t).run P w = .ok true w := by
  obtain ⟨h, _⟩ := h
  cases hd : P.underlying t with
  | none => simp [hd] at h
  | some d =>
    simp [hd] at h
    simp only [Go.isAgg, Sem.run_bind, run_underlying hd, Result.andThen_ok]
    cases d <;> simp_all [atomic]
theorem TS.under {t e k : Nat} (h : TS P t e k) : P.underlying t = some (.slice e) := by
  obtain ⟨h, _⟩ := h
  cases hd : P.underlying t with
  | none => simp [hd] at h
  | some d => cases d <;> simp_all [elemOf?]

theorem run_loadAt_atom {t : TypeId} (h : TA P t) {a : Addr} {v : Value} (hc : w.cell? a = some v) : (Instr.loadAt t (.pointer (some a))).run P w = .ok v w := by
  simp [Instr.loadAt, Instr.sureAddr, loadVar, h.isAgg, hc]
theorem run_loadAt_agg {t n : Nat} (h : TG P t n) {a : Addr} {cs : List Value} (hl : cs.length = n) (hc : ∀ j v, cs[j]? = some v → w.cell? (a.add j) = some v) :
    (Instr.loadAt t (.pointer (some a))).run P w = .ok (.agg cs.toArray) w := by
  subst hl
  simp [Instr.loadAt, Instr.sureAddr, loadVar, h.isAgg, run_sizeOf h.2, run_loadCells_list w a cs hc]
theorem add_off {b o j : Nat} : (⟨b, o, none⟩ : Addr).add j = ⟨b, o + j, none⟩ := by
  unfold Addr.add; split <;> simp_all
theorem run_fieldAt {s i off : Nat} (h : TF P s i off) {b o : Nat} : (Instr.fieldAt s (.pointer (some ⟨b, o, none⟩)) i).run P w = .ok (.pointer (some ⟨b, o + off, none⟩)) w := by
  unfold TF fieldOff at h
  cases hd : P.underlying s with
  | none => simp [hd] at h
  | some d =>
    cases d <;> simp only [hd] at h <;> try (cases h)
    rename_i fs
    cases hf : fs[i]? with
    | none => simp [hf] at h
    | some f =>
      simp only [hf] at h
      cases hn : sizeAt P f.type with
      | none => simp [hn] at h
      | some n =>
        cases n with
        | zero => simp [hn] at h
        | succ n =>
          simp [hn] at h
          subst h
          simp [Instr.fieldAt, run_underlying hd, hf, Instr.sureAddr, fieldPlace, run_sizeOf hn, add_off]
theorem run_indexAt {t e k : Nat} (h : TS P t e k) {b o len cap : Nat} {i : Int} (h0 : 0 ≤ i) (h1 : i < len) :
    (Instr.indexAt t (.slice (some ⟨b, o, none⟩) len cap) (.int .i64 i)).run P w = .ok (.pointer (some ⟨b, o + i.toNat * k, none⟩)) w := by
  simp [Instr.indexAt, asIntOf, run_underlying h.under, run_sizeOf h.2, h0, h1, add_off]

theorem run_len_sl {t e k : Nat} (h : TS P t e k) {ty : TypeId} {a : Option Addr} {n c : Nat} : (Builtin.len_ #[t] ty #[.slice a n c]).run P w = .ok (.int .i64 n) w := by
  simp [Builtin.len_, run_underlying h.under, goInt]
end

theorem Good.here {P : Program} {r : Rho} {w : World} {t : A} {v : Value} (hok : r.ok w) (h : t.p r v) : Good P r w t (.ok (.value v) w) := ⟨r, Grow.refl hok, h⟩

section
variable {P : Program} {own : OC} {ty : TypeId}

theorem O_move {x : Operand} {t : A} : OpN P own [(true, x, t)] (.move x) ty t := fun r w a hok _ hn => by
  simp only [exec, execOp, Sem.run_pure]
  exact Good.here hok (hn (true, x, t) (by simp) rfl)
theorem O_assign {x : Operand} {t : A} : OpN P own [(true, x, t)] (.assign x) ty t := fun r w a hok _ hn => by
  simp only [exec, execOp, Sem.run_pure]
  exact Good.here hok (hn (true, x, t) (by simp) rfl)

theorem O_assignc {v : Value} : OpN P own [] (.assign (.const v)) ty (A.val v) := fun r w a hok _ _ => by
  simp only [exec, execOp, Sem.run_pure]
  exact Good.here hok rfl
theorem O_movec {v : Value} : OpN P own [] (.move (.const v)) ty (A.val v) := fun r w a hok _ _ => by
  simp only [exec, execOp, Sem.run_pure]
  exact Good.here hok rfl

theorem O_pick {c x y : Operand} {b : Bool} {t u : A} (h : ∀ r v, if b then t.p r v → u.p r v else True) {t' : A} (h' : ∀ r v, if b then True else t'.p r v → u.p r v) :
    OpN P own [(true, c, A.bool b), (b, x, t), (!b, y, t')] (.pick c x y) ty u := fun r w a hok _ hn => by
  have hc : a.eval c = .bool b := hn (true, c, A.bool b) (by simp) rfl
  simp only [exec, execOp, Sem.run_bind, Sem.run_pure, hc, asBool, Result.andThen_ok]
  cases b with
  | true => exact Good.here hok (h r _ (hn (true, x, t) (by simp) rfl))
  | false => exact Good.here hok (h' r _ (hn (true, y, t') (by simp) rfl))

/-- a || b -/
theorem O_or {c y : Operand} {b b2 : Bool} : OpN P own [(true, c, A.bool b), (!b, y, A.bool b2)] (.pick c (.const (.bool true)) y) ty (A.bool (b || b2)) := fun r w a hok _ hn => by
  have hc : a.eval c = .bool b := hn (true, c, A.bool b) (by simp) rfl
  simp only [exec, execOp, Sem.run_bind, Sem.run_pure, hc, asBool, Result.andThen_ok]
  cases b with
  | true => exact Good.here hok rfl
  | false => exact Good.here hok (hn (true, y, A.bool b2) (by simp) rfl)
/-- a && b -/
theorem O_and {c x : Operand} {b b2 : Bool} : OpN P own [(true, c, A.bool b), (b, x, A.bool b2)] (.pick c x (.const (.bool false))) ty (A.bool (b && b2)) := fun r w a hok _ hn => by
  have hc : a.eval c = .bool b := hn (true, c, A.bool b) (by simp) rfl
  simp only [exec, execOp, Sem.run_bind, Sem.run_pure, hc, asBool, Result.andThen_ok]
  cases b with
  | true => exact Good.here hok (hn (true, x, A.bool b2) (by simp) rfl)
  | false => exact Good.here hok rfl

theorem int2 {a : Act} {x y : Operand} {m n : Int} {r : Rho} (hn : ∀ z ∈ [(true, x, A.int m), (true, y, A.int n)], z.1 = true → z.2.2.p r (a.eval z.2.1)) :
    a.eval x = .int .i64 m ∧ a.eval y = .int .i64 n := ⟨hn (true, x, A.int m) (by simp) rfl, hn (true, y, A.int n) (by simp) rfl⟩

abbrev inI (z : Int) : Prop := -9223372036854775808 ≤ z ∧ z ≤ 9223372036854775807
theorem wrap_in {z : Int} (h : inI z) : IntKind.i64.wrap z = z := IntWalk.i64_in _ h

section
variable {x y : Operand} {m n : Int} {T T2 : TypeId}
theorem O_add (h : inI (m + n)) : OpN P own [(true, x, A.int m), (true, y, A.int n)] (.binOp .add T x y T2) ty (A.int (m + n)) := fun r w a hok _ hn => by
  obtain ⟨hx, hy⟩ := int2 hn
  simp only [exec, execOp, hx, hy, eqGuard, binOp, Op.intArith, Sem.run_bind, Sem.run_pure]
  simp [wrap_in h]
  exact Good.here hok rfl
theorem O_sub (h : inI (m - n)) : OpN P own [(true, x, A.int m), (true, y, A.int n)] (.binOp .sub T x y T2) ty (A.int (m - n)) := fun r w a hok _ hn => by
  obtain ⟨hx, hy⟩ := int2 hn
  simp only [exec, execOp, hx, hy, eqGuard, binOp, Op.intArith, Sem.run_bind, Sem.run_pure]
  simp [wrap_in h]
  exact Good.here hok rfl
theorem O_mul (h : inI (m * n)) : OpN P own [(true, x, A.int m), (true, y, A.int n)] (.binOp .mul T x y T2) ty (A.int (m * n)) := fun r w a hok _ hn => by
  obtain ⟨hx, hy⟩ := int2 hn
  simp only [exec, execOp, hx, hy, eqGuard, binOp, Op.intArith, Sem.run_bind, Sem.run_pure]
  simp [wrap_in h]
  exact Good.here hok rfl
theorem O_lss : OpN P own [(true, x, A.int m), (true, y, A.int n)] (.binOp .lss T x y T2) ty (A.bool (decide (m < n))) := fun r w a hok _ hn => by
  obtain ⟨hx, hy⟩ := int2 hn
  simp [exec, execOp, hx, hy, eqGuard, binOp, Op.intCmp]
  exact Good.here hok rfl
theorem O_leq : OpN P own [(true, x, A.int m), (true, y, A.int n)] (.binOp .leq T x y T2) ty (A.bool (decide (m ≤ n))) := fun r w a hok _ hn => by
  obtain ⟨hx, hy⟩ := int2 hn
  simp [exec, execOp, hx, hy, eqGuard, binOp, Op.intCmp]
  exact Good.here hok rfl
theorem O_gtr : OpN P own [(true, x, A.int m), (true, y, A.int n)] (.binOp .gtr T x y T2) ty (A.bool (decide (n < m))) := fun r w a hok _ hn => by
  obtain ⟨hx, hy⟩ := int2 hn
  simp [exec, execOp, hx, hy, eqGuard, binOp, Op.intCmp]
  exact Good.here hok rfl
theorem O_geq : OpN P own [(true, x, A.int m), (true, y, A.int n)] (.binOp .geq T x y T2) ty (A.bool (decide (n ≤ m))) := fun r w a hok _ hn => by
  obtain ⟨hx, hy⟩ := int2 hn
  simp [exec, execOp, hx, hy, eqGuard, binOp, Op.intCmp]
  exact Good.here hok rfl
theorem O_eql : OpN P own [(true, x, A.int m), (true, y, A.int n)] (.binOp .eql T x y T2) ty (A.bool (decide (m = n))) := fun r w a hok _ hn => by
  obtain ⟨hx, hy⟩ := int2 hn
  simp [exec, execOp, hx, hy, eqGuard, binOp, Op.intCmp]
  exact Good.here hok (by show _ = _; rw [show (m == n) = decide (m = n) from rfl])
theorem O_neq : OpN P own [(true, x, A.int m), (true, y, A.int n)] (.binOp .neq T x y T2) ty (A.bool (!decide (m = n))) := fun r w a hok _ hn => by
  obtain ⟨hx, hy⟩ := int2 hn
  simp [exec, execOp, hx, hy, eqGuard, binOp, Op.intCmp]
  exact Good.here hok rfl
end

section
variable {x y : Operand} {b c : Bool} {T T2 : TypeId}
theorem bool2 {a : Act} {x y : Operand} {m n : Bool} {r : Rho} (hn : ∀ z ∈ [(true, x, A.bool m), (true, y, A.bool n)], z.1 = true → z.2.2.p r (a.eval z.2.1)) :
    a.eval x = .bool m ∧ a.eval y = .bool n := ⟨hn (true, x, A.bool m) (by simp) rfl, hn (true, y, A.bool n) (by simp) rfl⟩
theorem O_eqb (h : P.underlying T = some .bool) : OpN P own [(true, x, A.bool b), (true, y, A.bool c)] (.binOp .eql T x y T2) ty (A.bool (b == c)) := fun r w a hok _ hn => by
  obtain ⟨hx, hy⟩ := bool2 hn
  simp [exec, execOp, hx, hy, eqGuard, run_eql_bool w T b c h]
  exact Good.here hok rfl
theorem O_neb (h : P.underlying T = some .bool) : OpN P own [(true, x, A.bool b), (true, y, A.bool c)] (.binOp .neq T x y T2) ty (A.bool (!(b == c))) := fun r w a hok _ hn => by
  obtain ⟨hx, hy⟩ := bool2 hn
  simp [exec, execOp, hx, hy, eqGuard, run_neq_bool w T b c h]
  exact Good.here hok rfl
theorem O_not : OpN P own [(true, x, A.bool b)] (.unOp .not T x) ty (A.bool (!b)) := fun r w a hok _ hn => by
  have hx : a.eval x = .bool b := hn (true, x, A.bool b) (by simp) rfl
  simp [exec, execOp, hx, Op.unary]
  exact Good.here hok rfl
end

section
variable {x i : Operand} {T e k off : Nat}
theorem O_field {j : Nat} {cells : List A} (h : TF P T j off) : OpN P own [(true, x, A.pt cells)] (.fieldAddr T x j) ty (A.pt (cells.drop off)) := fun r w a hok _ hn => by
  obtain ⟨b, o, hx, hc⟩ := hn (true, x, A.pt cells) (by simp) rfl
  have hx : a.eval x = .pointer (some ⟨b, o, none⟩) := hx
  simp only [exec, execOp, hx, Sem.run_bind, run_fieldAt h, Result.andThen_ok, Sem.run_pure]
  refine Good.here hok ⟨b, o + off, rfl, fun i c hi => ?_⟩
  have := hc (off + i) c (by simpa using hi)
  rwa [Nat.add_assoc]
theorem O_fieldv {j b o : Nat} (h : TF P T j off) : OpN P own [(true, x, A.val (.pointer (some ⟨b, o, none⟩)))] (.fieldAddr T x j) ty (A.val (.pointer (some ⟨b, o + off, none⟩))) := fun r w a hok _ hn => by
  have hx : a.eval x = .pointer (some ⟨b, o, none⟩) := hn (true, x, _) (List.mem_singleton.2 rfl) rfl
  simp only [exec, execOp, hx, Sem.run_bind, run_fieldAt h, Result.andThen_ok, Sem.run_pure]
  exact Good.here hok rfl

/-- The i-th of a list, by an Int. -/
def idx {S : Type} [Inhabited S] (L : List S) (n : Int) : S := L.getD n.toNat default
theorem idx_get {S : Type} [Inhabited S] {L : List S} {n : Int} (h0 : 0 ≤ n) (h1 : n < L.length) : L[n.toNat]? = some (idx L n) := by
  have : n.toNat < L.length := by omega
  simp [idx, this]

theorem O_index {S : Type} [Inhabited S] {f : S → List A} {L : List S} {n : Int} (h : TS P T e k) (hb : 0 ≤ n ∧ n < L.length) :
    OpN P own [(true, x, A.sl k f L), (true, i, A.int n)] (.indexAddr T x i) ty (A.pt (f (idx L n))) := fun r w a hok _ hn => by
  obtain ⟨p, len, cap, hx, h1, h2, h3, h4⟩ := hn (true, x, A.sl k f L) (by simp) rfl
  have hx : a.eval x = .slice p len cap := hx
  have hi : a.eval i = .int .i64 n := hn (true, i, A.int n) (by simp) rfl
  subst h1
  obtain ⟨b, o, rfl, hc⟩ := h4 (fun e => by rw [e] at hb; simp at hb; omega)
  simp only [exec, execOp, hx, hi, Sem.run_bind, run_indexAt h hb.1 hb.2, Result.andThen_ok, Sem.run_pure]
  exact Good.here hok ⟨b, _, rfl, hc n.toNat _ (idx_get hb.1 hb.2)⟩

theorem O_load {c : A} {cells : List A} (h : TA P T) : OpN P own [(true, x, A.pt (c :: cells))] (.load T x) ty c := fun r w a hok _ hn => by
  obtain ⟨b, o, hx, hc⟩ := hn (true, x, A.pt (c :: cells)) (by simp) rfl
  have hx : a.eval x = .pointer (some ⟨b, o, none⟩) := hx
  obtain ⟨v, hv, hp⟩ := hc 0 c (by simp)
  rw [Nat.add_zero] at hv
  simp only [exec, execOp, hx, Sem.run_bind, run_loadAt_atom h (hok.cell hv), Result.andThen_ok, Sem.run_pure]
  exact Good.here hok hp

theorem exists_cells {r : Rho} {b o : Nat} : ∀ (cells : List A) (o' : Nat), (∀ (i : Nat) c, cells[i]? = some c → ∃ x, r ⟨b, o + (o' + i), none⟩ = some x ∧ c.p r x) →
    ∃ vs : List Value, All2 r cells vs ∧ ∀ (i : Nat) v, vs[i]? = some v → r ⟨b, o + (o' + i), none⟩ = some v
  | [], _, _ => ⟨[], trivial, by simp⟩
  | c :: cells, o', h => by
    obtain ⟨x, hx, hp⟩ := h 0 c (by simp)
    obtain ⟨vs, h1, h2⟩ := exists_cells cells (o' + 1) (fun i c' hc => by have := h (i + 1) c' (by simpa using hc); rwa [show o' + (i + 1) = o' + 1 + i from by omega] at this)
    refine ⟨x :: vs, ⟨hp, h1⟩, fun i v hv => ?_⟩
    cases i with
    | zero => simp at hv; subst hv; exact hx
    | succ i => have := h2 i v (by simpa using hv); rwa [show o' + (i + 1) = o' + 1 + i from by omega]

theorem O_loadg {n : Nat} {cells : List A} (h : TG P T n) (hl : n ≤ cells.length) : OpN P own [(true, x, A.pt cells)] (.load T x) ty (A.agg (cells.take n)) := fun r w a hok _ hn => by
  obtain ⟨b, o, hx, hc⟩ := hn (true, x, A.pt cells) (by simp) rfl
  have hx : a.eval x = .pointer (some ⟨b, o, none⟩) := hx
  obtain ⟨vs, h1, h2⟩ := exists_cells (r := r) (b := b) (o := o) (cells.take n) 0 (fun i c hi => by
    rw [Nat.zero_add]
    exact hc i c (by rw [List.getElem?_take] at hi; split at hi; exact hi; cases hi))
  have hlen : vs.length = n := by rw [← h1.length]; simp [hl]
  simp only [exec, execOp, hx, Sem.run_bind, run_loadAt_agg h hlen (fun j v hv => by rw [add_off]; exact hok.cell (by have := h2 j v hv; rwa [Nat.zero_add] at this)), Result.andThen_ok, Sem.run_pure]
  exact Good.here hok ⟨vs.toArray, rfl, by simpa using h1⟩

theorem O_len {S : Type} {f : S → List A} {L : List S} (h : TS P T e k) : OpN P own [(true, x, A.sl k f L)] (.call { callee := .builtin .len, args := #[x], argTypes := #[T] }) ty (A.int L.length) := fun r w a hok _ hn => by
  obtain ⟨p, len, cap, hx, h1, h2, h3, h4⟩ := hn (true, x, A.sl k f L) (by simp) rfl
  have hx : a.eval x = .slice p len cap := hx
  subst h1
  simp only [exec, execOp, resolve, Sem.run_bind, Sem.run_pure, Result.andThen_ok, invoke, builtin]
  simp only [List.map_toArray, List.map_cons, List.map_nil, hx, run_len_sl h, Result.andThen_ok]
  exact Good.here hok rfl

theorem O_extract {j : Nat} {l : List A} {t : A} (h : l[j]? = some t) : OpN P own [(true, x, A.tup l)] (.extract x j) ty t := fun r w a hok _ hn => by
  obtain ⟨vs, hx, hc⟩ := hn (true, x, A.tup l) (by simp) rfl
  have hx : a.eval x = .tuple vs := hx
  obtain ⟨v, hv, hp⟩ := hc.get j t h
  have hv : vs[j]? = some v := by simpa using hv
  simp only [exec, execOp, hx, Sem.run_bind, Instr.extract, hv, Sem.run_pure, Result.andThen_ok]
  exact Good.here hok hp

/-- A function with a body, by its number. -/
def CallF (P : Program) (f : FuncId) : Prop := ∀ (w : World) (vs : Array Value), (callFunc f vs).run P w = .ok (.enter f vs) w

theorem all2_args {r : Rho} {a : Act} : ∀ {xs : List Operand} {ts : List A}, xs.length = ts.length → (∀ z ∈ (xs.zip ts).map (fun z => ((true, z.1, z.2) : Bool × Operand × A)), z.1 = true → z.2.2.p r (a.eval z.2.1)) →
    All2 r ts (xs.map a.eval)
  | [], [], _, _ => trivial
  | x :: xs, t :: ts, hl, h => ⟨h (true, x, t) (by simp) rfl, all2_args (by simpa using hl) fun z hz => h z (by simp at hz ⊢; exact .inr hz)⟩
  | [], _ :: _, hl, _ => by simp at hl
  | _ :: _, [], hl, _ => by simp at hl

theorem O_call {f : FuncId} {xs : List Operand} {ts : List A} {t : A} {tt : Array TypeId} (hf : CallF P f) (h : FnC P f ts t) (hl : xs.length = ts.length) :
    OpN P own ((xs.zip ts).map fun z => (true, z.1, z.2)) (.call { callee := .value (.func f), args := xs.toArray, argTypes := tt }) ty t := fun r w a hok _ hn => by
  have := all2_args hl hn
  have hcall := h r w (xs.map a.eval) hok this
  have e : a.eval (.func f) = .func (.func f) #[] #[] := rfl
  simp only [exec, execOp, resolve, Sem.run_bind, Sem.run_pure, Result.andThen_ok, e, Deferred.ofValue, invoke]
  simp only [List.map_toArray, Array.empty_append, Array.append_empty, hf w _]
  exact ⟨rfl, hcall⟩
end
end
end Go.L
