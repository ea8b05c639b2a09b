import Derived.Test.YtfjggobjijeniaaCal3
/-! Slices of one element, empty ones; less said of slices. -/
namespace Go.L
open Go Go.RowKit

theorem AllImp.cellsAt {r : Rho} {b : Nat} : ∀ {l m : List A} {o : Nat}, AllImp l m → A.CellsAt r b o m → A.CellsAt r b o l
  | [], _, _, _, _ => fun i c h => by simp at h
  | t :: l, u :: m, o, h, k => fun i c hi => by
    cases i with
    | zero =>
      simp at hi; subst hi
      obtain ⟨x, hx, hp⟩ := k 0 u (by simp)
      exact ⟨x, hx, h.1 _ _ hp⟩
    | succ i =>
      have := AllImp.cellsAt (o := o + 1) h.2 (fun j c' hj => by have := k (j + 1) c' (by simpa using hj); rwa [show o + (j + 1) = o + 1 + j from by omega] at this) i c (by simpa using hi)
      rwa [show o + (i + 1) = o + 1 + i from by omega]
  | _ :: _, [], _, h, _ => h.elim
theorem Imp.sl {S S' : Type} {k : Nat} {f : S → List A} {f' : S' → List A} {L : List S} {L' : List S'} (hl : L'.length = L.length) (h : ∀ (i : Nat) y y', L[i]? = some y → L'[i]? = some y' → AllImp (f' y') (f y)) : Imp (A.sl k f L) (A.sl k f' L') := fun r v ⟨a, len, cap, e, h1, h2, h3, h4⟩ => by
  refine ⟨a, len, cap, e, by rw [hl]; exact h1, h2, h3, fun hn => ?_⟩
  obtain ⟨b, o, ea, hc⟩ := h4 (fun e => hn (List.eq_nil_of_length_eq_zero (by rw [hl, e]; rfl)))
  refine ⟨b, o, ea, fun i y' hy' => ?_⟩
  have hlt : i < L.length := by have := (List.getElem?_eq_some_iff.1 hy').1; omega
  exact AllImp.cellsAt (h i _ y' (List.getElem?_eq_getElem hlt) hy') (hc i _ (List.getElem?_eq_getElem hlt))
/-- The same list, of whose elements less is said. -/
theorem Imp.slf {S : Type} {k : Nat} {f f' : S → List A} {L : List S} (h : ∀ y, AllImp (f' y) (f y)) : Imp (A.sl k f L) (A.sl k f' L) := Imp.sl rfl fun i y y' h1 h2 => by rw [h1] at h2; cases h2; exact h y
/-- The same list, by another name. -/
theorem Imp.slm {S S' : Type} {k : Nat} {f : S → List A} {f' : S' → List A} {h : S → S'} {L : List S} (hf : ∀ y, f' (h y) = f y) : Imp (A.sl k f L) (A.sl k f' (L.map h)) := Imp.sl (by simp) fun i y y' h1 h2 => by
  rw [List.getElem?_map, h1] at h2; cases h2; exact AllImp.eq (hf y)
theorem Imp.slv {S : Type} {k : Nat} {f : S → List A} {L : List S} {v : Value} : Imp (A.slv v k f L) (A.sl k f L) := fun _ _ h => h.2
theorem Imp.slval {S : Type} {k : Nat} {f : S → List A} {L : List S} {v : Value} : Imp (A.slv v k f L) (A.val v) := fun _ _ h => h.1
theorem Imp.nil {S : Type} {k : Nat} {f : S → List A} : Imp (A.val (.slice none 0 0)) (A.sl k f []) := fun _ v h => by
  have h : v = _ := h
  subst h; exact ⟨none, 0, 0, rfl, rfl, Nat.le_refl _, Nat.zero_le _, fun h => absurd rfl h⟩
theorem All2.imp {r : Rho} {l m : List A} {vs : List Value} (h : AllImp l m) (k : All2 r m vs) : All2 r l vs := h.all2 k
theorem Imp.agg {l m : List A} (h : AllImp l m) : Imp (A.agg m) (A.agg l) := fun _ _ ⟨vs, e, k⟩ => ⟨vs, e, h.all2 k⟩
theorem Imp.pt {l m : List A} (h : AllImp l m) : Imp (A.pt m) (A.pt l) := fun _ _ ⟨b, o, e, k⟩ => ⟨b, o, e, AllImp.cellsAt h k⟩
theorem Imp.nwagg {c : Rho} {l : List A} : Imp (A.nw c (A.agg l)) (A.agg (l.map (A.nw c))) := fun r _ ⟨h, vs, e, k⟩ => by
  refine ⟨vs, e, ?_⟩
  have : ∀ (l : List A) (us : List Value), All2 (r.minus c) l us → All2 r (l.map (A.nw c)) us := by
    intro l
    induction l with
    | nil => intro us q; cases us with
      | nil => trivial
      | cons _ _ => exact q.elim
    | cons t l ih => intro us q; cases us with
      | nil => exact q.elim
      | cons u us => exact ⟨⟨h, q.1⟩, ih us q.2⟩
  exact this _ _ k
theorem Imp.nwi {c : Rho} {u t : A} (h : Imp u t) : Imp (A.nw c u) (A.nw c t) := fun _ _ k => ⟨k.1, h _ _ k.2⟩
theorem Imp.nwpure {c : Rho} {u : A} : Imp (A.nw c u) u := Imp.nw
theorem Imp.ex {T : Type} {f : T → A} (x : T) : Imp (f x) (A.ex f) := fun _ _ h => ⟨x, h⟩
theorem Imp.st {p : Prop} {t : A} (h : p) : Imp t (A.st p t) := fun _ _ k => ⟨h, k⟩
theorem Imp.any {t : A} : Imp t A.any := fun _ _ _ => trivial
theorem CellsOf.imp {t : A} {l m : List A} (h : CellsOf t m) (k : AllImp l m) : CellsOf t l := fun r v q => ⟨k.all2 (h r v q).1, (h r v q).2⟩
theorem OneV.slvv {S : Type} {k : Nat} {f : S → List A} {L : List S} {v : Value} : OneV (A.slv v k f L) := fun _ _ h => OneV.sl _ _ h.2
theorem OneV.nw {c : Rho} {t : A} (h : OneV t) : OneV (A.nw c t) := fun _ v k => h _ v k.2
theorem OneV.at_ {c : Rho} {t : A} (h : OneV t) : OneV (A.at_ c t) := fun _ v k => h _ v k.2
theorem OneV.ex {T : Type} {f : T → A} (h : ∀ x, OneV (f x)) : OneV (A.ex f) := fun r v ⟨x, k⟩ => h x r v k
theorem OneV.str {s : ByteArray} : OneV (A.str s) := fun _ _ h => by cases h; exact ⟨rfl, rfl⟩
theorem OneV.u8 {n : Int} : OneV (A.u8 n) := fun _ _ h => by cases h; exact ⟨rfl, rfl⟩

section
variable {P : Program} {own : OC} {ty T : TypeId} {x : Operand}
theorem OpN.post {need : Need} {op : Op} {t u : A} (h : OpN P own need op ty t) (k : Imp t u) : OpN P own need op ty u := fun r w a hok ho hn => by
  have := h r w a hok ho hn
  generalize (exec a op ty).run P w = res at this
  cases res with
  | halt x w1 => exact this.elim
  | ok n w1 =>
    cases n with
    | value v => obtain ⟨s, g, q⟩ := this; exact ⟨s, g, k _ _ q⟩
    | enter f args =>
      obtain ⟨e, q⟩ := this
      exact ⟨e, q.mono fun _ _ ⟨v, s, h1, h2, h3⟩ => ⟨v, s, h1, h2, k _ _ h3⟩⟩
    | _ => exact this.elim
theorem O_slice1 {e k bytes : Nat} {S : Type} {f : S → List A} (y : S) {u : A} {cells : List A} (h : TE P T e k bytes) (hk16 : Nat.ble k 16777216 = true) (hl : cells.length = k) (hc : CellsOf u cells) (hi : AllImp (f y) cells) :
    OpN P own [(true, x, u)] (.buildSlice T 1 #[(0, x)]) ty (A.sl k f [y]) := by
  have := O_buildSlice (P := P) (own := own) (ty := ty) (T := T) (e := e) (k := k) (n := 1) (bytes := bytes) (S := Unit) (f := fun _ => cells) [()] (ps := [(0, x)]) [(u, cells)] h (by simpa using hk16) (by simp [maxLen]) rfl (fun _ => hl)
    (by simp [partsOk, slPlaces, hl]) ⟨hc, trivial⟩ (by simp [fitsL, partOffs, slPlaces, hl, List.range_succ]) (by simp [fillL, partOffs, slPlaces, hl, List.range_succ, over])
  exact this.post (Imp.sl rfl fun i a b h1 h2 => by
    cases i with
    | zero => simp at h1 h2; subst h2; exact hi
    | succ i => simp at h1)
theorem O_slice0 {e k bytes : Nat} {S : Type} {f : S → List A} (h : TE P T e k bytes) : OpN P own [] (.buildSlice T 0 #[]) ty (A.sl k f []) := by
  have := O_buildSlice (P := P) (own := own) (ty := ty) (T := T) (e := e) (k := k) (n := 0) (bytes := bytes) (S := Unit) (f := fun _ => List.replicate k A.any) [] (ps := []) [] h (by simp) (by simp [maxLen]) rfl (fun _ => by simp)
    rfl trivial (by simp [fitsL, partOffs]) (by simp [fillL, partOffs])
  exact this.post (Imp.sl rfl fun i a b h1 h2 => by simp at h1)
end

section
variable {E : Env} {g : Ctx} {Q : Exit → Act → World → Prop} {ops : Array Oper} {rest : List Oper} {d s : Nat} {ty : TypeId} {pos : String} {aft : Array Edge} {t : A}
theorem run_slice0 {P : Program} {w : World} {T e k bytes : Nat} {a : Act} (h : TE P T e k bytes) : (execOp a.eval ⟨some d, .buildSlice T 0 #[], ty, pos, aft, none⟩).run P w = .ok (.value (.slice (some ⟨w.heap.size, 0, none⟩) 0 0)) (w.alloc (.cells #[] e)) := by
  obtain ⟨hu, i, z, hi, hz, hs, _, _⟩ := h
  have hsize : (sizeOf e).run P w = .ok k w := run_sizeOf (by unfold sizeAt; simp [hi, hs])
  simp [execOp, Instr.buildSlice, run_underlying hu, hsize, Instr.fill, newRow, newObj]
  have e0 : ∀ f : Nat → Value, Array.map f (Array.range 0) = #[] := fun f => by apply Array.ext <;> simp
  rw [e0]
  rfl
/-- An empty slice of one's own. -/
theorem WL_slice0o {T e k bytes : Nat} (h : TE E.P T e k bytes) (hd : Nat.ble (d + 1) E.n = true)
    (k' : ∀ b, WL E ops rest { g with sl := (d, true, A.os b 0 0) :: g.sl, own := (b, e, []) :: g.own } Q) : WL E ops (⟨some d, .buildSlice T 0 #[], ty, pos, aft, none⟩ :: rest) g Q := by
  intro a w ⟨h1, h2, r, H⟩
  refine wpListIn_value rfl (by simp) (fun _ => trivial) (run_slice0 h) (k' w.heap.size _ _ ⟨by rw [size_put]; exact h1, ?_, r, ?_⟩)
  · rw [defers_put]; exact h2.grow H (Grow.same H.ok ((Below.refl _ _).alloc (Nat.le_refl _) _))
  · have hlt : d < a.tmps.size := by rw [h1]; exact Nat.le_of_ble_eq_true hd
    have H' := H.allocOwn #[] e (cells := []) trivial
    exact { H' with slots := Slots.put H'.slots hlt (fun _ => rfl) (fun hc => by cases hc) }
/-- An empty slice with room. -/
theorem WL_slice0r {T e k bytes : Nat} {S : Type} (f : S → List A) (h : TE E.P T e k bytes) (hd : Nat.ble (d + 1) E.n = true)
    (k' : ∀ v, WL E ops rest { g with sl := (d, true, A.slv v k f []) :: g.sl, rooms := (v, e, k) :: g.rooms } Q) : WL E ops (⟨some d, .buildSlice T 0 #[], ty, pos, aft, none⟩ :: rest) g Q := by
  intro a w ⟨h1, h2, r, H⟩
  refine wpListIn_value rfl (by simp) (fun _ => trivial) (run_slice0 h) (k' (.slice (some ⟨w.heap.size, 0, none⟩) 0 0) _ _ ⟨by rw [size_put]; exact h1, ?_, r, ?_⟩)
  · rw [defers_put]; exact h2.grow H (Grow.same H.ok ((Below.refl _ _).alloc (Nat.le_refl _) _))
  · have hlt : d < a.tmps.size := by rw [h1]; exact Nat.le_of_ble_eq_true hd
    have gr : Grow r w r (w.alloc (.cells #[] e)) := Grow.same H.ok ((Below.refl _ _).alloc (Nat.le_refl _) _)
    have H' := H.grow gr (a' := a) H.slots
    exact { H' with
      slots := Slots.put H'.slots hlt (fun _ => ⟨rfl, _, 0, 0, rfl, rfl, Nat.le_refl _, Nat.zero_le _, fun h => absurd rfl h⟩) (fun hc => by cases hc)
      room := fun x hx => by
        rcases List.mem_cons.1 hx with rfl | hx
        · refine ⟨rfl, rfl, Nat.le_refl _, Nat.zero_le _, ⟨#[], World.alloc_heap_new w _, by simp⟩, fun o sp _ => ?_⟩
          cases e' : r _ with
          | none => rfl
          | some v => exact absurd (Rho.ok_lt H.ok e') (by simp)
        · exact H'.room x hx
      roomB := fun x hx b hb => by
        rcases List.mem_cons.1 hx with rfl | hx
        · cases hb
          refine ⟨.inr H.size, fun hm => ?_⟩
          obtain ⟨y, hy, e'⟩ := List.mem_map.1 hm
          have := (H.own y hy).lt
          have e'' : y.1 = w.heap.size := e'
          omega
        · exact H'.roomB x hx b hb
      roomN := by
        rw [List.filterMap_cons]
        show (w.heap.size :: _).Nodup
        rw [List.nodup_cons]
        refine ⟨fun hm => ?_, H'.roomN⟩
        obtain ⟨y, hy, e'⟩ := List.mem_filterMap.1 hm
        have := (H.room y hy).lt e'
        omega }
/-- A block is no more of one's own: it is read. -/
theorem WL_freezeN {l : List Oper} (i : Nat) (c : Rho) {b tb : Nat} {cells : List A} {cells' : List A} (hc : c ∈ g.cps) (hi : g.own[i]? = some (b, tb, cells)) (s : Nat) {v : Value} {u : A} (hs : look g.sl s = some (true, A.val v))
    (hn : AllNw c cells cells') (hu : ∀ r, A.CellsAt r b 0 cells' → u.p r v) (h : WL E ops l { g with sl := (s, true, A.nw c u) :: g.sl, own := g.own.eraseIdx i } Q) : WL E ops l g Q := by
  refine WL_freeze i hi s hs (fun r hcs hat => ?_) h
  obtain ⟨hcr, hcn⟩ := hcs c hc
  refine ⟨hcr, hu _ fun j c' hj => ?_⟩
  have hl : cells.length = cells'.length := by
    have : ∀ (l m : List A), AllNw c l m → l.length = m.length := by
      intro l
      induction l with
      | nil => intro m h; cases m with
        | nil => rfl
        | cons _ _ => exact h.elim
      | cons t l ih => intro m h; cases m with
        | nil => exact h.elim
        | cons u m => simp [ih m h.2]
    exact this _ _ hn
  have hg : ∀ (l m : List A), AllNw c l m → ∀ (j : Nat) u t, l[j]? = some u → m[j]? = some t → NwI c u t := by
    intro l
    induction l with
    | nil => intro m _ j u t h; simp at h
    | cons t l ih => intro m h j u t' hu ht; cases m with
      | nil => exact h.elim
      | cons u' m =>
        cases j with
        | zero => simp at hu ht; subst hu; subst ht; exact h.1
        | succ j => exact ih m h.2 j u t' (by simpa using hu) (by simpa using ht)
  have hjl : j < cells.length := by rw [hl]; exact (List.getElem?_eq_some_iff.1 hj).1
  obtain ⟨x, hx, hp⟩ := hat j _ (List.getElem?_eq_getElem hjl)
  refine ⟨x, ?_, hg _ _ hn j _ _ (List.getElem?_eq_getElem hjl) hj r x hcr hp⟩
  unfold Rho.minus
  rw [if_pos (hcn _ none)]; exact hx
end
end Go.L
