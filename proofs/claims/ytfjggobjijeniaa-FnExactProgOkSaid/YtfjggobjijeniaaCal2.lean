import Derived.Test.YtfjggobjijeniaaCal
/-! Writing numbers into what was handed over; owned slices. -/
namespace Go.L
open Go Go.RowKit

/-- Known of what is beyond c. -/
def NwI (c : Rho) (u t : A) : Prop := ∀ r v, c.le r → u.p r v → t.p (r.minus c) v
theorem NwI.nw {c : Rho} {t : A} : NwI c (A.nw c t) t := fun _ _ _ k => k.2
theorem NwI.pure {c : Rho} {t : A} (h : Pure t) : NwI c t t := fun _ _ _ k => h _ _ _ k
theorem NwI.val {c : Rho} {v : Value} : NwI c (A.val v) (A.val v) := fun _ _ _ k => k
def AllNw (c : Rho) : List A → List A → Prop
  | [], [] => True
  | u :: l, t :: m => NwI c u t ∧ AllNw c l m
  | _, _ => False
theorem AllNw.all2 {c r : Rho} (h1 : c.le r) : ∀ {l m : List A} {vs : List Value}, AllNw c l m → All2 r l vs → All2 (r.minus c) m vs
  | [], [], [], _, _ => trivial
  | [], [], _ :: _, _, k => k.elim
  | _ :: _, _ :: _, _ :: _, h, k => ⟨h.1 _ _ h1 k.1, AllNw.all2 h1 h.2 k.2⟩
  | _ :: _, _ :: _, [], _, k => k.elim
  | [], _ :: _, _, h, _ => h.elim
  | _ :: _, [], _, h, _ => h.elim

section
variable {E : Env} {g : Ctx} {Q : Exit → Act → World → Prop} {ops : Array Oper} {rest : List Oper}

theorem HoldsAt.beyond_unf {c r : Rho} {a : Act} {w : World} (H : HoldsAt E g r a w) (hE : ∀ a, E.r0 a ≠ none → c a = none → a.spot = none → E.K a) {b : Addr} (hb : r.beyond c b) : Unf w b.block := by
  obtain ⟨h1, h0, v, h2⟩ := hb
  rcases H.fresh b v h2 with ⟨⟨v0, k1⟩, k2⟩ | k
  · exact absurd (hE b (by rw [k1]; simp) h1 h0) k2
  · exact k.2

/-- A call of a function that writes numbers and bools into what it is handed. -/
theorem WL_callK (c : Rho) (J : List (Nat × Bool × A)) (O : Own) {d f : Nat} {ty : TypeId} {pos : String} {aft : Array Edge} {xs : List Operand} {us ts : List A} {tt : Array TypeId} {t : A}
    (hf : CallF E.P f) (h : FnK E.P f ts t) (hl : xs.length = us.length) (hr : Reads g.sl true ((xs.zip us).map fun z => (true, z.1, z.2))) (hn : AllNw c us ts) (hc : c ∈ g.cps)
    (hE : ∀ a, E.r0 a ≠ none → c a = none → a.spot = none → E.K a) (hJ : FactsK c g.sl J) (hO : OKI c O g.own) (hob : g.objs = []) (hd : Nat.ble (d + 1) E.n = true)
    (k : WL E ops rest ⟨(d, true, t) :: J, O, [], [], [], [c]⟩ Q) :
    WL E ops (⟨some d, .call { callee := .value (.func f), args := xs.toArray, argTypes := tt }, ty, pos, aft, none⟩ :: rest) g Q := by
  intro a w ⟨h1, h2, r, H⟩
  have hcr := H.cps c hc
  have hall := hn.all2 hcr (all2_args (r := r) hl (hr.use rfl H.slots))
  have hcall := h c r w _ H.ok hcr (fun b hb => H.beyond_unf hE hb) hall
  refine wpListIn_plain rfl fun K hK => ?_
  refine ⟨fun f _ => trivial, ?_⟩
  rw [Oper.semAt_eq _ _ _ (by simp)]
  show Oper.uponIn (fz E.rnd) 9 E.P _ a K Q ((execOp a.eval ⟨some d, .call { callee := .value (.func f), args := xs.toArray, argTypes := tt }, ty, pos, aft, none⟩).run E.P w)
  rw [exec_eq, run_callf hf, Oper.uponIn_enter]
  refine ⟨fun h => (by cases h), CallsIn.mono (calls_fz hcall) ?_⟩
  rintro e w'' ⟨v, s, rfl, gx, hv⟩
  refine hK _ _ (k _ _ ⟨by rw [size_put]; exact h1, by rw [defers_put]; exact Marks.turn H gx h2, s, ?_⟩)
  have hlt : d < a.tmps.size := by rw [h1]; exact Nat.le_of_ble_eq_true hd
  have hcs : c.le s := fun x v e => by
    obtain ⟨v', e1, e2 | ⟨e2, _⟩⟩ := gx.le x v (hcr _ _ e)
    · rw [e1, e2]
    · rw [e2.1] at e; cases e
  refine H.turn (g' := ⟨(d, true, t) :: J, O, [], [], [], [c]⟩) hc hE gx hO rfl rfl rfl rfl ?_
  refine Slots.put (fun s' b u e => ?_) hlt (fun _ => hv s) (fun hc => by cases hc)
  obtain ⟨rfl, u', hu, hk⟩ := hJ.use e
  exact ⟨fun _ => hk r s _ hcr hcs gx.le ((H.slots s' true u' hu).1 rfl), fun h => by cases h⟩

def A.anyI : A := A.ex A.int
def A.anyB : A := A.ex A.bool
/-- A value of the kind of a cell. -/
def KindOf (k u : A) : Prop := ∀ r s v v', k.p r v → u.p s v' → SameKind v v' ∧ v'.cells = #[v'] ∧ v'.oneCell' = true
theorem KindOf.int {n : Int} : KindOf A.anyI (A.int n) := fun _ _ _ _ ⟨m, h⟩ k => by
  have h : _ = _ := h
  have k : _ = _ := k
  subst h; subst k; exact ⟨.inl ⟨_, _, _, rfl, rfl⟩, rfl, rfl⟩
theorem KindOf.bool {n : Bool} : KindOf A.anyB (A.bool n) := fun _ _ _ _ ⟨m, h⟩ k => by
  have h : _ = _ := h
  have k : _ = _ := k
  subst h; subst k; exact ⟨.inr ⟨_, _, rfl, rfl⟩, rfl, rfl⟩

/-- A number or a bool is written into what was handed over. -/
theorem WL_storeK (c : Rho) (J : List (Nat × Bool × A)) (O : Own) {T : Nat} {ad x : Operand} {ty : TypeId} {pos : String} {aft : Array Edge} {kd u : A} {cells : List A}
    (hr : Reads g.sl true [(true, ad, A.nw c (A.pt (kd :: cells))), (true, x, u)]) (hk : KindOf kd u) (hs : sizeAt E.P T = some 1) (hc : c ∈ g.cps)
    (hE : ∀ a, E.r0 a ≠ none → c a = none → a.spot = none → E.K a) (hJ : FactsK c g.sl J) (hO : OKI c O g.own) (hob : g.objs = [])
    (h : WL E ops rest ⟨J, O, [], [], [], [c]⟩ Q) :
    WL E ops (⟨none, .store T ad x, ty, pos, aft, none⟩ :: rest) g Q := by
  intro a w ⟨h1, h2, r, H⟩
  have hu := hr.use rfl H.slots
  have hcr := H.cps c hc
  obtain ⟨_, b, o, had, hca⟩ := hu (true, ad, A.nw c (A.pt (kd :: cells))) (by simp) rfl
  have had : a.eval ad = .pointer (some ⟨b, o, none⟩) := had
  have hx : u.p r (a.eval x) := hu (true, x, u) (by simp) rfl
  obtain ⟨v0, hv0, hkv⟩ := hca 0 kd (by simp)
  rw [Nat.add_zero] at hv0
  obtain ⟨hsk, hcl, hoc⟩ := hk _ _ _ _ hkv hx
  have hr0 : r ⟨b, o, none⟩ = some v0 := Rho.minus_le _ _ _ _ hv0
  have hcn : c ⟨b, o, none⟩ = none := by
    unfold Rho.minus at hv0; split at hv0
    · assumption
    · cases hv0
  have hbey : r.beyond c ⟨b, o, none⟩ := ⟨hcn, rfl, v0, hr0⟩
  have hunf := H.beyond_unf hE hbey
  have hgc := H.ok _ _ hr0
  obtain ⟨vs, tyb, hb, hvo⟩ : ∃ vs tyb, w.heap[b]? = some (.cells vs tyb (0, 0)) ∧ vs[o]? = some v0 := by
    unfold gc at hgc
    simp only at hgc
    split at hgc
    · rename_i cs e fr hcs
      have := hunf _ _ _ hcs
      subst this
      exact ⟨cs, e, hcs, hgc⟩
    · cases hgc
  have hlt := (Array.getElem?_eq_some_iff.1 hb).1
  have hlo := (Array.getElem?_eq_some_iff.1 hvo).1
  generalize hw' : w.putObj b (.cells (over vs.toList o [a.eval x]).toArray tyb (0, 0)) = w'
  have hrun : (execOp a.eval ⟨none, .store T ad x, ty, pos, aft, none⟩).run E.P w = .ok .skip w' := by
    have := run_storeCells (P := E.P) (off := o) (ty := tyb) [a.eval x] 0 vs w hb (by simp; omega) (by simpa using hoc)
    simp only [Nat.add_zero] at this
    simp [execOp, had, Instr.storeAt, Instr.sureAddr, storeVar, run_sizeOf hs, hcl, this, hw']
  have hover : over vs.toList o [a.eval x] = vs.toList.set o (a.eval x) := by
    unfold over
    rw [List.set_eq_take_append_cons_drop]
    simp [hlo]
  have hbw : w'.heap[b]? = some (.cells (over vs.toList o [a.eval x]).toArray tyb (0, 0)) := by rw [← hw']; exact World.putObj_heap_same hlt
  have hother : ∀ k, k ≠ b → w'.heap[k]? = w.heap[k]? := fun k hk => by rw [← hw']; exact World.putObj_heap_other hk
  let s : Rho := fun y => if y = ⟨b, o, none⟩ then some (a.eval x) else r y
  have hs1 : s ⟨b, o, none⟩ = some (a.eval x) := by show (if _ then _ else _) = _; rw [if_pos rfl]
  have hs2 : ∀ y, y ≠ ⟨b, o, none⟩ → s y = r y := fun y hy => by show (if _ then _ else _) = _; rw [if_neg hy]
  have gx : GrowK (r.beyond c) r w s w' := {
    le := fun y v e => by
      by_cases hy : y = ⟨b, o, none⟩
      · subst hy
        rw [hr0] at e; cases e
        exact ⟨_, hs1, .inr ⟨hbey, hsk⟩⟩
      · exact ⟨v, by rw [hs2 y hy]; exact e, .inl rfl⟩
    ok := fun y v e => by
      by_cases hy : y = ⟨b, o, none⟩
      · subst hy
        rw [hs1] at e; cases e
        show gc w'.heap[b]? ⟨b, o, none⟩ = _
        rw [hbw, hover]
        simp [gc, hlo]
      · rw [hs2 y hy] at e
        have hy' := H.ok y v e
        by_cases hyb : y.block = b
        · rw [hyb, hb] at hy'
          rw [hyb, hbw, hover]
          unfold gc at hy' ⊢
          cases hsp : y.spot with
          | some q => rw [hsp] at hy'; cases hy'
          | none =>
            rw [hsp] at hy'
            simp only at hy' ⊢
            have hne : o ≠ y.off := fun e' => hy (by cases y; simp_all)
            simp only [List.getElem?_toArray, List.getElem?_set_ne hne]
            simpa using hy'
        · rw [hother _ hyb]; exact hy'
    fresh := fun y v e => by
      by_cases hy : y = ⟨b, o, none⟩
      · subst hy
        exact .inr ⟨.inl ⟨_, hbey, rfl⟩, fun cs ty fr e' => by rw [hbw] at e'; cases e'; rfl⟩
      · rw [hs2 y hy] at e
        by_cases hk : r.beyond c y
        · refine .inr ⟨.inl ⟨y, hk, rfl⟩, ?_⟩
          by_cases hyb : y.block = b
          · rw [hyb]; exact fun cs ty fr e' => by rw [hbw] at e'; cases e'; rfl
          · exact (H.beyond_unf hE hk).same (hother _ hyb)
        · exact .inl ⟨⟨v, e⟩, hk⟩
    size := by rw [← hw', World.putObj_size]; exact Nat.le_refl _
    block := fun k _ hk => hother k fun e => hk _ hbey e.symm
    unf := fun k _ hu' => by
      by_cases hkb : k = b
      · rw [hkb]; exact fun cs ty fr e' => by rw [hbw] at e'; cases e'; rfl
      · exact hu'.same (hother k hkb)
    os := by rw [← hw']; rfl
    tape := by rw [← hw']; rfl
    output := by rw [← hw']; rfl }
  have hcs : c.le s := fun y v e => by rw [hs2 y (fun e' => by subst e'; rw [hcn] at e; cases e)]; exact hcr _ _ e
  refine wpListIn_unit rfl (by simp) (fun _ => trivial) hrun (h _ _ ⟨by rw [size_put]; exact h1, Marks.turn H gx h2, s, ?_⟩)
  refine H.turn (g' := ⟨J, O, [], [], [], [c]⟩) hc hE gx hO rfl rfl rfl rfl ?_
  intro s' b' u' e
  obtain ⟨rfl, u'', hu'', hk'⟩ := hJ.use e
  exact ⟨fun _ => hk' r s _ hcr hcs gx.le ((H.slots s' true u'' hu'').1 rfl), fun h => by cases h⟩

/-- An own slice. -/
abbrev A.os (b n cap : Nat) : A := A.val (.slice (some ⟨b, 0, none⟩) n cap)

/-- make([]T, n): owned. -/
def TEZ (P : Program) (t e k bytes : Nat) (zs : List Value) : Prop := P.underlying t = some (.slice e) ∧ (P.info? e).bind (fun i => i.zero.map fun z => (i.size, i.bytes, z.cells.toList)) = some (k, bytes, zs)
theorem TEZ.te {P : Program} {t e k bytes : Nat} {zs : List Value} (h : TEZ P t e k bytes zs) (hk : zs.length = k) : TE P t e k bytes := by
  obtain ⟨h1, h2⟩ := h
  cases hi : P.info? e with
  | none => simp [hi] at h2
  | some i =>
    cases hz : i.zero with
    | none => simp [hi, hz] at h2
    | some z =>
      simp [hi, hz] at h2
      obtain ⟨h3, h4, h5⟩ := h2
      exact ⟨h1, i, z, hi, hz, h3, h4, by rw [← h5] at hk; simpa using hk⟩
theorem zeros_get {zs : List Value} : ∀ (n i : Nat), (List.replicate n zs).flatten[i]? = if i < n * zs.length then zs[i % zs.length]? else none
  | 0, i => by simp
  | n + 1, i => by
    rw [List.replicate_succ, List.flatten_cons]
    by_cases h : i < zs.length
    · rw [List.getElem?_append_left h, Nat.mod_eq_of_lt h, if_pos (by rw [Nat.add_mul, Nat.one_mul]; omega)]
    · rw [List.getElem?_append_right (by omega), zeros_get n]
      have : (i - zs.length) % zs.length = i % zs.length := by rw [← Nat.mod_eq_sub_mod (by omega)]
      rw [this, Nat.add_mul, Nat.one_mul]
      by_cases q : i - zs.length < n * zs.length
      · rw [if_pos q, if_pos (by omega)]
      · rw [if_neg q, if_neg (by omega)]
theorem zeros_all2 {r : Rho} {zs : List Value} (n : Nat) : All2 r (List.replicate n (zs.map A.val)).flatten (List.replicate n zs).flatten := by
  induction n with
  | zero => trivial
  | succ n ih =>
    rw [List.replicate_succ, List.replicate_succ, List.flatten_cons, List.flatten_cons]
    exact (All2.vals zs).append ih
theorem madeCells_zeros {z : Array Value} {zs : List Value} (n : Nat) (h : z.toList = zs) : (madeCells z (n * zs.length)).toList = (List.replicate n zs).flatten := by
  apply List.ext_getElem?
  intro i
  rw [zeros_get]
  subst h
  unfold madeCells
  simp only [Array.toList_map, Array.toList_range, List.getElem?_map, Array.length_toList]
  by_cases q : i < n * z.size
  · rw [if_pos q, List.getElem?_range q]
    have hz : 0 < z.size := by
      rcases Nat.eq_zero_or_pos z.size with e | e
      · rw [e] at q; simp at q
      · exact e
    have hm := Nat.mod_lt i hz
    simp [hm]
  · rw [if_neg q, List.getElem?_eq_none (by simpa using q)]; rfl

theorem WL_make {d T : Nat} {ln cp : Operand} {ty : TypeId} {pos : String} {aft : Array Edge} {e k bytes : Nat} {zs : List Value} {n : Int} (hT : TEZ E.P T e k bytes zs) (hk : zs.length = k)
    (hr : Reads g.sl true [(true, ln, A.int n), (true, cp, A.int n)]) (h0 : 0 ≤ n) (hb : bytes * n ≤ 281474976710656) (h63 : n ≤ 9223372036854775807) (hd : Nat.ble (d + 1) E.n = true)
    (h : ∀ b, WL E ops rest { g with sl := (d, true, A.os b n.toNat n.toNat) :: g.sl, own := (b, e, (List.replicate n.toNat (zs.map A.val)).flatten) :: g.own } Q) :
    WL E ops (⟨some d, .makeSlice T ln cp, ty, pos, aft, none⟩ :: rest) g Q := by
  intro a w ⟨h1, h2, r, H⟩
  have hu := hr.use rfl H.slots
  have hln : a.eval ln = .int .i64 n := hu (true, ln, A.int n) (by simp) rfl
  have hcp : a.eval cp = .int .i64 n := hu (true, cp, A.int n) (by simp) rfl
  obtain ⟨ht, h3⟩ := hT
  cases hi : E.P.info? e with
  | none => simp [hi] at h3
  | some i =>
    cases hz : i.zero with
    | none => simp [hi, hz] at h3
    | some z =>
      simp [hi, hz] at h3
      obtain ⟨h4, h5, h6⟩ := h3
      have hm := run_make (P := E.P) w T e i z ht hi hz .i64 .i64 n n h0 (Int.le_refl _) (by rw [h5]; exact hb) h63
      have hzs : (madeCells z.cells (n.toNat * i.size)).toList = (List.replicate n.toNat zs).flatten := by
        rw [h4, ← hk]; exact madeCells_zeros n.toNat h6
      have hrun : (execOp a.eval ⟨some d, .makeSlice T ln cp, ty, pos, aft, none⟩).run E.P w = .ok (.value (.slice (some ⟨w.heap.size, 0, none⟩) n.toNat n.toNat)) (w.alloc (.cells (madeCells z.cells (n.toNat * i.size)) e)) := by
        simp [execOp, hln, hcp, hm]
      refine wpListIn_value rfl (by simp) (fun _ => trivial) hrun (h w.heap.size _ _ ⟨by rw [size_put]; exact h1, ?_, r, ?_⟩)
      · rw [defers_put]
        exact h2.grow H (Grow.same H.ok ((Below.refl _ _).alloc (Nat.le_refl _) _))
      · have hlt : d < a.tmps.size := by rw [h1]; exact Nat.le_of_ble_eq_true hd
        have H' := H.allocOwn (madeCells z.cells (n.toNat * i.size)) e (cells := (List.replicate n.toNat (zs.map A.val)).flatten) (by rw [hzs]; exact zeros_all2 _)
        exact { H' with slots := Slots.put H'.slots hlt (fun _ => rfl) (fun hc => by cases hc) }

/-- x = append(x, y...) where x is an own slice. -/
theorem WL_appendo (i : Nat) {d t ty : Nat} {x y : Operand} {pos : String} {aft : Array Edge} {b n cap e k bytes : Nat} {cells : List A} {S : Type} {f2 : S → List A} {M : List S}
    (hT : TE E.P t e k bytes) (hr : Reads g.sl true [(true, x, A.os b n cap), (true, y, A.sl k f2 M)]) (hi : g.own[i]? = some (b, e, cells)) (hcl : cells.length = cap * k) (hnc : n ≤ cap) (hcm : cap ≤ maxLen) (hk0 : 0 < k)
    (hk2 : ∀ y, (f2 y).length = k) (hOne : ∀ y, AllOne (f2 y)) (hb : (n + M.length) * bytes ≤ 140737488355328) (h63 : n + M.length ≤ maxLen) (hd : Nat.ble (d + 1) E.n = true)
    (h : ∀ b' cap' spare, spare.length = (cap' - (n + M.length)) * k → n + M.length ≤ cap' → cap' ≤ maxLen →
      WL E ops rest { g with sl := (d, true, A.os b' (n + M.length) cap') :: g.sl, own := g.own.set i (b', e, cells.take (n * k) ++ M.flatMap f2 ++ spare) } Q) :
    WL E ops (⟨some d, .call { callee := .builtin .append, args := #[x, y], argTypes := #[t, t] }, ty, pos, aft, none⟩ :: rest) g Q := by
  intro a w ⟨h1, h2, r, H⟩
  have hu := hr.use rfl H.slots
  have hxv : a.eval x = .slice (some ⟨b, 0, none⟩) n cap := hu (true, x, A.os b n cap) (by simp) rfl
  have hys : (A.sl k f2 M).p r (a.eval y) := hu (true, y, A.sl k f2 M) (by simp) rfl
  have hmem := List.mem_of_getElem? hi
  obtain ⟨hno, vs, hbl, hv⟩ := H.own _ hmem
  have hvl := hv.length
  have hcs : vs.size = cap * k := by simp at hvl; omega
  obtain ⟨ya, m, c, news, hye, hm, hmc, hcm', hnv, hnl, hnr⟩ := sl_vals hys hk2
  have hnOne : ∀ u ∈ news, u.oneCell' = true := flat_one hOne hnv
  have hnews : m = 0 ∨ ∃ a, ya = some a ∧ ∀ (j : Nat) u, news[j]? = some u → w.cell? (a.add j) = some u := by
    rcases hnr with rfl | ⟨b, o, rfl, hq⟩
    · exact .inl (by simpa using hm)
    · exact .inr ⟨_, rfl, cellsAt_news H.ok hq⟩
  have hown : w.ownsRow 0 e k (.slice (some ⟨b, 0, none⟩) n cap) n (vs.toList.take (n * k)) :=
    ⟨by rw [List.length_take, Array.length_toList, hcs, Nat.min_eq_left (Nat.mul_le_mul_right _ hnc)], .inr ⟨b, cap, vs, rfl, Nat.zero_le _, hbl, hnc, hcm, hcs, rfl⟩⟩
  obtain ⟨v', w', hrun, hap⟩ := append_run (ty := ty) (c := c) hT hk0 hown hnl hnews hnOne (by rw [hm]; exact hb) (by rw [hm]; exact h63)
  have hexec : (execOp a.eval ⟨some d, .call { callee := .builtin .append, args := #[x, y], argTypes := #[t, t] }, ty, pos, aft, none⟩).run E.P w = .ok (.value v') w' := by
    simp only [execOp, resolve, Sem.run_bind, Sem.run_pure, Result.andThen_ok, invoke, builtin]
    simp only [List.map_toArray, List.map_cons, List.map_nil, hxv, hye, hrun, Result.andThen_ok]
  have hlt : d < a.tmps.size := by rw [h1]; exact Nat.le_of_ble_eq_true hd
  have hfl : (M.flatMap f2).length = m * k := by rw [hm]; exact flat_length (fun y _ => hk2 y)
  have hil : i < g.own.length := (List.getElem?_eq_some_iff.1 hi).1
  cases hap with
  | nothing hm0 =>
    have hMe : M = [] := List.eq_nil_of_length_eq_zero (by omega)
    subst hMe
    refine wpListIn_value rfl (by simp) (fun _ => trivial) hexec (h b cap (cells.drop (n * k)) (by simp [hcl, Nat.sub_mul]) (by simpa using hnc) hcm _ _ ⟨by rw [size_put]; exact h1, by rw [defers_put]; exact h2, r, ?_⟩)
    have e1 : cells.take (n * k) ++ ([] : List S).flatMap f2 ++ cells.drop (n * k) = cells := by simp
    rw [e1, set_same hi]
    exact { H with slots := Slots.put H.slots hlt (fun _ => rfl) (fun hc => by cases hc) }
  | room gb cap' cur hvv hg hfit =>
    cases hvv
    rw [hbl] at hg; cases hg
    have hle : n * k + (M.flatMap f2).length ≤ cells.length := by
      rw [hfl, hcl, ← Nat.add_mul]; exact Nat.mul_le_mul_right _ hfit
    have H' := H.putOwn hi (cs := (over vs.toList (n * k) news).toArray) (cells' := over cells (n * k) (M.flatMap f2)) (by simpa using hv.over hnv hle)
    have hwl : WL E ops rest { g with sl := (d, true, A.os b (n + M.length) cap) :: g.sl, own := g.own.set i (b, e, cells.take (n * k) ++ M.flatMap f2 ++ cells.drop (n * k + (M.flatMap f2).length)) } Q :=
      h b cap _ (by rw [List.length_drop, hcl, hfl, ← hm, ← Nat.add_mul, ← Nat.sub_mul]) (by omega) hcm
    refine wpListIn_value rfl (by simp) (fun _ => trivial) hexec (hwl _ _ ⟨by rw [size_put]; exact h1, by rw [defers_put]; exact h2.putOwn (fun ds e => by rw [hbl] at e; cases e), r, ?_⟩)
    exact { H' with slots := Slots.put H'.slots hlt (fun _ => by rw [hm]; rfl) (fun hc => by cases hc) }
  | grow cap' rest' hg1 hg2 hg3 =>
    have gr : Grow r w r w.drew := Grow.same H.ok ((Below.refl _ _).drew)
    have H1 := H.grow gr (a' := a) H.slots
    have hall : All2 r (cells.take (n * k) ++ M.flatMap f2 ++ List.replicate rest'.size A.any) (vs.toList.take (n * k) ++ news ++ rest'.toList) := by
      have ht : All2 r (cells.take (n * k)) (vs.toList.take (n * k)) := by
        have e1 : cells = cells.take (n * k) ++ cells.drop (n * k) := (List.take_append_drop _ cells).symm
        rw [e1] at hv
        have := hv.split.1
        rwa [List.length_take, Nat.min_eq_left (by rw [hcl]; exact Nat.mul_le_mul_right _ hnc)] at this
      exact (ht.append hnv).append (by simpa using All2.anys (r := r) rest'.toList)
    have H2 := H1.allocOwn ((vs.toList.take (n * k)).toArray ++ news.toArray ++ rest') e (cells := cells.take (n * k) ++ M.flatMap f2 ++ List.replicate rest'.size A.any) (by simpa using hall)
    have hnew : w.heap.size ∉ g.own.map (·.1) := fun hm' => by
      obtain ⟨y, hy, e'⟩ := List.mem_map.1 hm'
      have := (H.own y hy).lt
      have e'' : y.1 = w.heap.size := e'
      omega
    have H3 := H2.reown (own' := g.own.set i (w.heap.size, e, cells.take (n * k) ++ M.flatMap f2 ++ List.replicate rest'.size A.any)) (fun x hx => by
        rcases List.mem_or_eq_of_mem_set hx with q | q
        · exact List.mem_cons_of_mem _ q
        · subst q; exact List.mem_cons_self ..) (by
        rw [List.map_set]
        have hno' := H.nodup
        have : ∀ (l : List Nat) (j : Nat) (x : Nat), l.Nodup → x ∉ l → (l.set j x).Nodup := by
          intro l
          induction l with
          | nil => intro j x _ _; simp
          | cons y l ih =>
            intro j x hn hx
            rw [List.nodup_cons] at hn
            rw [List.mem_cons, not_or] at hx
            cases j with
            | zero => rw [List.set_cons_zero, List.nodup_cons]; exact ⟨hx.2, hn.2⟩
            | succ j =>
              rw [List.set_cons_succ, List.nodup_cons]
              refine ⟨fun hm' => ?_, ih j x hn.2 hx.2⟩
              rcases List.mem_or_eq_of_mem_set hm' with q | q
              · exact hn.1 q
              · exact hx.1 q.symm
        exact this _ _ _ hno' hnew)
    have hwl : WL E ops rest { g with sl := (d, true, A.os w.heap.size (n + M.length) cap') :: g.sl, own := g.own.set i (w.heap.size, e, cells.take (n * k) ++ M.flatMap f2 ++ List.replicate rest'.size A.any) } Q :=
      h w.heap.size cap' _ (by simp [hg3, hm]) (by omega) hg2
    refine wpListIn_value rfl (by simp) (fun _ => trivial) hexec (hwl _ _ ⟨by rw [size_put]; exact h1, ?_, r, ?_⟩)
    · rw [defers_put]
      exact (h2.grow H gr).grow H1 (Grow.same H1.ok ((Below.refl _ _).alloc (Nat.le_refl _) _))
    · exact { H3 with slots := Slots.put H3.slots hlt (fun _ => by rw [hm]; rfl) (fun hc => by cases hc) }

/-- Known still of an earlier ghost heap. -/
def Dn (c : Rho) (u t : A) : Prop := ∀ r v, c.le r → u.p r v → t.p c v
theorem Dn.at_ {c : Rho} {u : A} : Dn c (A.at_ c u) u := fun _ _ _ k => k.2
theorem Dn.pure {c : Rho} {u : A} (h : Pure u) : Dn c u u := fun _ _ _ k => h _ _ _ k
theorem Dn.val {c : Rho} {v : Value} : Dn c (A.val v) (A.val v) := fun _ _ _ k => k
def FactsD (c : Rho) (av : List (Nat × Bool × A)) : List (Nat × Bool × A) → Prop
  | [] => True
  | (s, b, t) :: l => (b = true ∧ ∃ u, look av s = some (true, u) ∧ Dn c u t) ∧ FactsD c av l
theorem FactsD.use {c : Rho} {av : List (Nat × Bool × A)} {s : Nat} {b : Bool} {t : A} : ∀ {l : List (Nat × Bool × A)}, FactsD c av l → look l s = some (b, t) → b = true ∧ ∃ u, look av s = some (true, u) ∧ Dn c u t
  | (s', c', t') :: l, h, e => by
    unfold look at e
    by_cases q : s' = s
    · subst q; simp at e; obtain ⟨rfl, rfl⟩ := e; exact h.1
    · rw [if_neg (by simpa using q)] at e; exact FactsD.use h.2 e
/-- Owned cells of which what is said is known of any ghost heap. -/
def AllPure : List A → Prop
  | [] => True
  | t :: l => Pure t ∧ AllPure l
theorem AllPure.all2 {r s : Rho} : ∀ {l : List A} {vs : List Value}, AllPure l → All2 r l vs → All2 s l vs
  | [], [], _, _ => trivial
  | _ :: _, _ :: _, h, k => ⟨h.1 _ _ _ k.1, AllPure.all2 h.2 k.2⟩
  | _ :: _, [], _, k => k.elim
  | [], _ :: _, _, k => k.elim
theorem AllPure.append : ∀ {l m : List A}, AllPure l → AllPure m → AllPure (l ++ m)
  | [], _, _, h => h
  | _ :: _, _, h, k => ⟨h.1, AllPure.append h.2 k⟩
theorem AllPure.flatMap {T : Type} {f : T → List A} (h : ∀ y, AllPure (f y)) : ∀ (L : List T), AllPure (L.flatMap f)
  | [] => trivial
  | y :: L => by rw [List.flatMap_cons]; exact (h y).append (AllPure.flatMap h L)
theorem Pure.any : Pure A.any := fun _ _ _ _ => trivial
theorem AllPure.anys : ∀ (n : Nat), AllPure (List.replicate n A.any)
  | 0 => trivial
  | n + 1 => by rw [List.replicate_succ]; exact ⟨Pure.any, AllPure.anys n⟩
theorem AllPure.vals : ∀ (vs : List Value), AllPure (vs.map A.val)
  | [] => trivial
  | _ :: vs => ⟨Pure.val, AllPure.vals vs⟩

/-- The ghost heap as it was: only what is known of it stays. -/
theorem HoldsAt.down {c r : Rho} {a : Act} {w : World} (H : HoldsAt E g r a w) (hc : c ∈ g.cps) (hE : ∀ x v, E.r0 x = some v → c x = r x) {J : List (Nat × Bool × A)} (hJ : FactsD c g.sl J) (hO : ∀ x ∈ g.own, AllPure x.2.2) (hm : g.maps = []) :
    HoldsAt E { g with sl := J, cps := [c] } c a w :=
  have hcr := H.cps c hc
  { le := fun x v e => by
      obtain ⟨v', h1, h2⟩ := H.le x v e
      exact ⟨v', by rw [hE x v e]; exact h1, h2⟩
    cps := fun c' hc' => by rcases List.mem_singleton.1 hc' with rfl; exact Rho.le_refl _
    ok := fun x v e => H.ok x v (hcr _ _ e)
    fresh := fun x v e => H.fresh x v (hcr _ _ e)
    size := H.size, block := H.block, unf := H.unf, os := H.os, tape := H.tape, output := H.output
    slots := fun s b t e => by
      obtain ⟨rfl, u, hu, hk⟩ := hJ.use e
      exact ⟨fun _ => hk r _ hcr ((H.slots s true u hu).1 rfl), fun h => by cases h⟩
    own := fun x hx => by
      obtain ⟨h1, vs, h2, h3⟩ := H.own x hx
      refine ⟨fun o s => ?_, vs, h2, (hO x hx).all2 h3⟩
      cases e : c ⟨x.1, o, s⟩ with
      | none => rfl
      | some v => have := hcr _ _ e; rw [h1] at this; cases this
    ownB := H.ownB
    nodup := H.nodup
    room := fun x hx => by
      have := H.room x hx
      unfold RoomOk at this ⊢
      split at this
      · exact this
      · obtain ⟨h1, h2, h3, h4, h5, h7⟩ := this
        refine ⟨h1, h2, h3, h4, h5, fun o s ho => ?_⟩
        cases e : c _ with
        | none => rfl
        | some v => have := hcr _ _ e; rw [h7 o s ho] at this; cases this
      · exact this
    roomB := H.roomB
    roomN := H.roomN
    mp := by
      refine ⟨?_, ?_, ?_, H.mp.nodup, H.mp.obj, H.mp.objN⟩ <;> (rw [hm]; exact fun _ h => (by cases h)) }

/-- A slice that has been appended to becomes an owned one. -/
theorem WL_roomOwn {l : List Oper} (c : Rho) (i s : Nat) {v : Value} {e k : Nat} {T : Type} {f : T → List A} {L : List T} (J : List (Nat × Bool × A)) (hc : c ∈ g.cps) (hE : ∀ x v, E.r0 x = some v → ∀ r : Rho, c.le r → c x = r x)
    (hcl : ∀ x v, c x = some v → x.block < E.w0.heap.size) (hX : ∀ b, E.X b → b ∈ g.own.map (·.1)) (hs : look g.sl s = some (true, A.slv v k f L)) (hi : g.rooms[i]? = some (v, e, k)) (hk : ∀ y, (f y).length = k)
    (hp : ∀ y, AllPure (f y)) (hJ : FactsD c g.sl J) (hO : ∀ x ∈ g.own, AllPure x.2.2) (hm : g.maps = [])
    (h0 : v = .slice none 0 0 → L = [] → WL E ops l { g with sl := (s, true, A.val (.slice none 0 0)) :: J, rooms := g.rooms.eraseIdx i, cps := [c] } Q)
    (h1 : ∀ b cap spare, v = .slice (some ⟨b, 0, none⟩) L.length cap → L.length ≤ cap → cap ≤ maxLen → (L.flatMap f ++ List.replicate spare A.any).length = cap * k →
      WL E ops l { g with sl := (s, true, A.os b L.length cap) :: J, own := (b, e, L.flatMap f ++ List.replicate spare A.any) :: g.own, rooms := g.rooms.eraseIdx i, cps := [c] } Q) : WL E ops l g Q := by
  intro a w ⟨q1, q2, r, H⟩
  obtain ⟨hv, hsl⟩ := (H.slots s true _ hs).1 rfl
  have hv : a.tmps.getD s undef = v := hv
  rw [hv] at hsl
  have hmem := List.mem_of_getElem? hi
  have hroom := H.room _ hmem
  have hcr := H.cps c hc
  have H1 := H.down hc (fun x v e => hE x v e r hcr) hJ hO hm
  have hrooms : ∀ x ∈ g.rooms.eraseIdx i, x ∈ g.rooms := fun x hx => List.mem_of_mem_eraseIdx hx
  have hslots : ∀ t : A, t.p c v → Slots c a ((s, true, t) :: J) := fun t ht s' b u e' => by
    unfold look at e'
    by_cases q : s = s'
    · subst q; simp at e'; obtain ⟨rfl, rfl⟩ := e'
      exact ⟨fun _ => hv ▸ ht, fun h => by cases h⟩
    · rw [if_neg (by simpa using q)] at e'; exact H1.slots s' b u e'
  have hnodup : ((g.rooms.eraseIdx i).filterMap fun x => roomBlock x.1).Nodup := H.roomN.sublist ((List.eraseIdx_sublist g.rooms i).filterMap _)
  unfold RoomOk at hroom
  split at hroom
  · rename_i n' c' e'
    simp only at e'
    obtain ⟨rfl, rfl⟩ := hroom
    subst e'
    obtain ⟨_, _, _, q3, q4, _⟩ := hsl
    cases q3
    have hL : L = [] := List.eq_nil_of_length_eq_zero q4.symm
    refine h0 rfl hL a w ⟨q1, q2, c, ?_⟩
    exact { H1 with slots := hslots _ rfl, room := fun x hx => H1.room x (hrooms x hx), roomB := fun x hx => H1.roomB x (hrooms x hx), roomN := hnodup }
  · rename_i ad n' c' e'
    simp only at e' hroom
    obtain ⟨k1, k2, k3, k4, ⟨vs, k5, k6⟩, k7⟩ := hroom
    obtain ⟨b, o, sp⟩ := ad
    simp only at k1 k2 k5 k7
    subst k1; subst k2; subst e'
    obtain ⟨ya, m, cc, vals, hve, hm', hmc, hcm, hall, hvl, hrr⟩ := sl_vals hsl hk
    cases hve
    have hbase := (H.roomB _ hmem b rfl)
    have hge : E.w0.heap.size ≤ b := hbase.1.resolve_left fun hx => hbase.2 (hX b hx)
    have hcn : ∀ o s, c ⟨b, o, s⟩ = none := fun o s => by
      cases e'' : c ⟨b, o, s⟩ with
      | none => rfl
      | some u => exact absurd (hcl _ _ e'') (by simp; omega)
    have hflat := AllPure.flatMap hp L
    have hlen : (L.flatMap f).length = L.length * k := flat_length (fun y _ => hk y)
    have htake : vs.toList.take (n' * k) = vals := by
      apply List.ext_getElem?
      intro j
      rw [List.getElem?_take]
      by_cases hj : j < n' * k
      · rw [if_pos hj]
        rcases hrr with hL | ⟨b', o', hao, hq⟩
        · subst hL; simp at hm'; subst hm'; simp at hj
        · cases hao
          have hj' : vals[j]? = some (vals[j]'(by omega)) := List.getElem?_eq_getElem _
          have := H.ok.cell (hq j _ hj')
          rw [hj']
          rw [Nat.zero_add] at this
          simpa [World.cell?, k5] using this
      · rw [if_neg hj, List.getElem?_eq_none (by omega)]
    have hcells : All2 c (L.flatMap f ++ List.replicate (vs.size - n' * k) A.any) vs.toList := by
      rw [← List.take_append_drop (n' * k) vs.toList, htake]
      refine (hflat.all2 hall).append ?_
      have := All2.anys (r := c) (vs.toList.drop (n' * k))
      simpa using this
    have hlen2 : (L.flatMap f ++ List.replicate (vs.size - n' * k) A.any).length = c' * k := by
      rw [List.length_append, List.length_replicate, hlen, k6, ← hm', ← Nat.sub_mul, ← Nat.add_mul]
      congr 1; omega
    have hwl := h1 b c' (vs.size - n' * k) (by rw [hm']) (by omega) k4 hlen2
    refine hwl a w ⟨q1, q2, c, ?_⟩
    exact { H1 with
      slots := hslots _ (by rw [hm']; rfl)
      own := fun x hx => by
        rcases List.mem_cons.1 hx with rfl | hx
        · exact ⟨hcn, vs, k5, hcells⟩
        · exact H1.own x hx
      ownB := fun x hx => by
        rcases List.mem_cons.1 hx with rfl | hx
        · exact hbase.1
        · exact H1.ownB x hx
      nodup := by
        rw [List.map_cons, List.nodup_cons]
        exact ⟨hbase.2, H.nodup⟩
      room := fun x hx => H1.room x (hrooms x hx)
      roomB := fun x hx b' hb' => by
        refine ⟨(H1.roomB x (hrooms x hx) b' hb').1, fun hmm => ?_⟩
        rw [List.map_cons, List.mem_cons] at hmm
        rcases hmm with rfl | hmm
        · obtain ⟨j, hj, ej⟩ := List.mem_eraseIdx_iff_getElem?.1 hx
          exact hj (nodup_filterMap_get (f := fun x : Value × Nat × Nat => roomBlock x.1) H.roomN ej hi hb' rfl)
        · exact (H1.roomB x (hrooms x hx) b' hb').2 hmm
      roomN := hnodup }
  · exact hroom.elim
end
end Go.L
