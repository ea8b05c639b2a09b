import Derived.Test.YtfjggobjijeniaaOwn
/-! Slices: append, slice expressions, literals, builds. -/
namespace Go.L
open Go Go.RowKit

section flat
variable {r : Rho} {b : Nat} {T : Type} {f : T → List A} {k : Nat}
theorem flat_of_rows : ∀ {L : List T} {o : Nat}, (∀ y ∈ L, (f y).length = k) → (∀ (i : Nat) y, L[i]? = some y → A.CellsAt r b (o + i * k) (f y)) → A.CellsAt r b o (L.flatMap f)
  | [], _, _, _ => fun i c h => by simp at h
  | y :: L, o, hk, h => by
    have h0 := h 0 y (by simp)
    have h1 := flat_of_rows (L := L) (o := o + k) (fun z hz => hk z (by simp [hz])) (fun i z hz => by
      have := h (i + 1) z (by simpa using hz)
      rwa [show o + (i + 1) * k = o + k + i * k from by rw [Nat.add_mul]; omega] at this)
    have hl := hk y (by simp)
    intro i c hi
    rw [List.flatMap_cons] at hi
    by_cases q : i < k
    · rw [List.getElem?_append_left (by omega)] at hi
      have := h0 i c hi
      simpa using this
    · rw [List.getElem?_append_right (by omega), hl] at hi
      have := h1 (i - k) c hi
      rwa [show o + k + (i - k) = o + i from by omega] at this
theorem rows_of_flat : ∀ {L : List T} {o : Nat}, (∀ y ∈ L, (f y).length = k) → A.CellsAt r b o (L.flatMap f) → ∀ (i : Nat) y, L[i]? = some y → A.CellsAt r b (o + i * k) (f y)
  | [], _, _, _, i, y, h => by simp at h
  | z :: L, o, hk, h, i, y, hi => by
    have hl := hk z (by simp)
    have hh : A.CellsAt r b o (f z) ∧ A.CellsAt r b (o + k) (L.flatMap f) := by
      rw [List.flatMap_cons] at h
      refine ⟨fun j c hj => h j c (by rw [List.getElem?_append_left ((List.getElem?_eq_some_iff.1 hj).1)]; exact hj), fun j c hj => ?_⟩
      have := h (k + j) c (by rw [List.getElem?_append_right (by omega), hl]; simpa using hj)
      rwa [← Nat.add_assoc] at this
    cases i with
    | zero => simp at hi; subst hi; simpa using hh.1
    | succ i =>
      have := rows_of_flat (fun z hz => hk z (by simp [hz])) hh.2 i y (by simpa using hi)
      rwa [show o + k + i * k = o + (i + 1) * k from by rw [Nat.add_mul]; omega] at this
theorem flat_length : ∀ {L : List T}, (∀ y ∈ L, (f y).length = k) → (L.flatMap f).length = L.length * k
  | [], _ => by simp
  | y :: L, h => by
    rw [List.flatMap_cons, List.length_append, h y (by simp), flat_length (fun z hz => h z (by simp [hz])), List.length_cons, Nat.add_mul]; omega
theorem flat_one : ∀ {L : List T}, (∀ y, AllOne (f y)) → ∀ {vs : List Value}, All2 r (L.flatMap f) vs → ∀ u ∈ vs, u.oneCell' = true := by
  intro L hf vs h
  have : AllOne (L.flatMap f) := by
    clear h
    induction L with
    | nil => trivial
    | cons y L ih =>
      rw [List.flatMap_cons]
      have := hf y
      revert this
      generalize f y = l
      intro this
      induction l with
      | nil => exact ih
      | cons c l ihl => exact ⟨this.1, ihl this.2⟩
  exact AllOne.all this h
end flat

/-- The very slice, that reads as L. -/
def A.slv {T : Type} (v : Value) (k : Nat) (f : T → List A) (L : List T) : A := A.both (A.val v) (A.sl k f L)

/-- A slice's cells as values. -/
theorem sl_vals {r : Rho} {T : Type} {k : Nat} {f : T → List A} {L : List T} {v : Value} (h : (A.sl k f L).p r v) (hk : ∀ y, (f y).length = k) :
    ∃ a len cap vs, v = .slice a len cap ∧ len = L.length ∧ len ≤ cap ∧ cap ≤ maxLen ∧ All2 r (L.flatMap f) vs ∧ vs.length = len * k ∧
      (L = [] ∨ ∃ b o, a = some ⟨b, o, none⟩ ∧ ∀ (i : Nat) u, vs[i]? = some u → r ⟨b, o + i, none⟩ = some u) := by
  obtain ⟨a, len, cap, e, h1, h2, h3, h4⟩ := h
  by_cases hL : L = []
  · subst hL
    exact ⟨a, len, cap, [], e, h1, h2, h3, trivial, by simp at h1; simp [h1], .inl rfl⟩
  · obtain ⟨b, o, ha, hc⟩ := h4 hL
    have hf := flat_of_rows (fun y _ => hk y) hc
    obtain ⟨vs, hv1, hv2⟩ := exists_cells (r := r) (b := b) (o := o) (L.flatMap f) 0 (fun i c hi => by rw [Nat.zero_add]; exact hf i c hi)
    refine ⟨a, len, cap, vs, e, h1, h2, h3, hv1, ?_, .inr ⟨b, o, ha, fun i u hu => by have := hv2 i u hu; rwa [Nat.zero_add] at this⟩⟩
    rw [← hv1.length, flat_length (fun y _ => hk y), h1]

/-- The element type's row. -/
def TE (P : Program) (t e k bytes : Nat) : Prop := P.underlying t = some (.slice e) ∧ ∃ i z, P.info? e = some i ∧ i.zero = some z ∧ i.size = k ∧ i.bytes = bytes ∧ z.cells.size = k

/-- What an append comes to. -/
inductive Appended (w : World) (e k : Nat) (v : Value) (n m : Nat) (xs news : List Value) : Value → World → Prop
  | nothing (hm : m = 0) : Appended w e k v n m xs news v w
  | room (g cap : Nat) (cur : Array Value) (hv : v = .slice (some ⟨g, 0, none⟩) n cap) (hg : w.heap[g]? = some (.cells cur e (0, 0))) (hfit : n + m ≤ cap) :
      Appended w e k v n m xs news (.slice (some ⟨g, 0, none⟩) (n + m) cap) (w.putObj g (.cells (over cur.toList (n * k) news).toArray e (0, 0)))
  | grow (cap : Nat) (rest : Array Value) (h1 : n + m ≤ cap) (h2 : cap ≤ maxLen) (h3 : rest.size = (cap - (n + m)) * k) :
      Appended w e k v n m xs news (.slice (some ⟨w.heap.size, 0, none⟩) (n + m) cap) (w.drew.alloc (.cells (xs.toArray ++ news.toArray ++ rest) e))

theorem setRow_eq {w : World} {g : Nat} {cur cs : Array Value} {e : TypeId} (h : w.heap[g]? = some (.cells cur e (0, 0))) : w.setRow g cs = w.putObj g (.cells cs e (0, 0)) := by
  unfold World.setRow World.putObj
  congr 1
  apply Array.ext_getElem?
  intro k
  rw [Array.getElem?_modify]
  by_cases hk : g = k
  · subst hk
    obtain ⟨hlt, he⟩ := Array.getElem?_eq_some_iff.1 h
    simp [he, hlt]
  · rw [if_neg hk, Array.getElem?_setIfInBounds_ne hk]

theorem append_run {P : Program} {w : World} {t ty e k bytes : Nat} (hT : TE P t e k bytes) {v : Value} {n : Nat} {xs : List Value} (hk : 0 < k) (hown : w.ownsRow 0 e k v n xs) {ya : Option Addr} {m c : Nat} {news : List Value}
    (hl : news.length = m * k) (hnews : m = 0 ∨ ∃ a, ya = some a ∧ ∀ (j : Nat) u, news[j]? = some u → w.cell? (a.add j) = some u) (h1 : ∀ u ∈ news, u.oneCell' = true) (hb : (n + m) * bytes ≤ 140737488355328) (h63 : n + m ≤ maxLen) :
    ∃ v' w', (Builtin.append_ #[t, t] ty #[v, .slice ya m c]).run P w = .ok v' w' ∧ Appended w e k v n m xs news v' w' := by
  obtain ⟨ht, i, z, hi, hz, rfl, rfl, hzs⟩ := hT
  have hsmall : n + m ≤ 9223372036854775807 := by simp only [maxLen] at h63; omega
  by_cases hm : m = 0
  · subst hm
    have hn : news = [] := List.eq_nil_of_length_eq_zero (by simpa using hl)
    subst hn
    refine ⟨v, w, ?_, .nothing rfl⟩
    rcases hown.2 with ⟨rfl, rfl⟩ | ⟨g, cap, cur, rfl, _, _, hnc, _⟩ <;> cases ya <;>
      simp [Builtin.append_, run_underlying ht, sizeOf, typeInfo, Builtin.lenOf, Builtin.firstCells, loadCells, loadCellsFrom, storeCells, *]
  · obtain ⟨a, rfl, hn⟩ := hnews.resolve_left hm
    have hgr : ∀ (old : Nat), old < n + m → (∃ (cap : Nat), cap = grownCap w (n + m) old e ∧ n + m ≤ cap ∧ cap ≤ maxLen) := fun old ho => ⟨_, rfl, grownCap_ge w (n + m) old e, grownCap_le_maxLen w (n + m) old e h63⟩
    rcases hown.2 with ⟨rfl, rfl⟩ | ⟨g, cap, cur, rfl, _, hg, hnc, hcm, hcs, htake⟩
    · have hx : xs = [] := List.eq_nil_of_length_eq_zero (by simpa using hown.1)
      subst hx
      have hr := run_append_nil (P := P) w t ty e i z ht hi hz a m c news hl hn (by omega) (by omega) (by simp only [Nat.zero_add] at hb; omega)
      obtain ⟨cp, hcp, hc1, hc2⟩ := hgr 0 (by omega)
      simp only [Nat.zero_add] at hcp hc1
      rw [← hcp] at hr
      refine ⟨_, _, hr, ?_⟩
      have := Appended.grow (w := w) (e := e) (k := i.size) (v := .slice none 0 0) (n := 0) (m := m) (xs := []) (news := news) cp (Builtin.zeroCells z.cells (cp - m)) (by omega) hc2 (by rw [size_zeroCells, hzs]; simp)
      simpa using this
    · by_cases hroom : n + m ≤ cap
      · have hfit : n * i.size + news.length ≤ cur.size := by rw [hl, hcs, ← Nat.add_mul]; exact Nat.mul_le_mul_right _ hroom
        have hr := run_append_room (P := P) w t ty e i ht hi g n cap cur hg a m c news hl hn h1 hroom hfit
        rw [setRow_eq hg] at hr
        exact ⟨_, _, hr, .room g cap cur rfl hg hroom⟩
      · have holds : ∀ (j : Nat) u, xs[j]? = some u → w.cell? ((⟨g, 0, none⟩ : Addr).add j) = some u := hown.cells (g := g) rfl
        have hr := run_append_grow (P := P) w t ty e i z ht hi hz ⟨g, 0, none⟩ n cap xs hown.1 holds a m c news hl hn (by omega) (by omega) (growslice_fits (by omega) hb)
        obtain ⟨cp, hcp, hc1, hc2⟩ := hgr cap (by omega)
        rw [← hcp] at hr
        exact ⟨_, _, hr, .grow cp _ hc1 hc2 (by rw [size_zeroCells, hzs])⟩

theorem sl_of_vals {r : Rho} {T : Type} {k : Nat} {f : T → List A} {L : List T} {g N cap : Nat} {vals : List Value} (hk : ∀ y, (f y).length = k) (hN : N = L.length) (h1 : N ≤ cap) (h2 : cap ≤ maxLen)
    (hv : All2 r (L.flatMap f) vals) (hr : ∀ (i : Nat) u, vals[i]? = some u → r ⟨g, i, none⟩ = some u) : (A.sl k f L).p r (.slice (some ⟨g, 0, none⟩) N cap) := by
  refine ⟨_, _, _, rfl, hN, h1, h2, fun _ => ⟨g, 0, rfl, ?_⟩⟩
  have hf : A.CellsAt r g 0 (L.flatMap f) := fun i c hi => by
    obtain ⟨u, hu, hp⟩ := hv.get i c hi
    exact ⟨u, by rw [Nat.zero_add]; exact hr i u hu, hp⟩
  exact rows_of_flat (fun y _ => hk y) hf

theorem RoomOk.owns {r : Rho} {w : World} {v : Value} {e k : Nat} (h : RoomOk r w (v, e, k)) : ∃ n xs, w.ownsRow 0 e k v n xs ∧ (∀ ya m c, v = .slice ya m c → m = n) ∧
    (∀ g, roomBlock v = some g → ∃ cap cur, v = .slice (some ⟨g, 0, none⟩) n cap ∧ w.heap[g]? = some (.cells cur e (0, 0)) ∧ cur.size = cap * k ∧ n ≤ cap ∧ cap ≤ maxLen ∧ xs = cur.toList.take (n * k) ∧ ∀ o s, n * k ≤ o → r ⟨g, o, s⟩ = none) := by
  unfold RoomOk at h
  split at h
  · rename_i n c e'
    simp only at e'
    subst e'
    obtain ⟨rfl, rfl⟩ := h
    exact ⟨0, [], World.ownsRow_nil _ _ _ _, fun _ _ _ q => by cases q; rfl, fun g q => by cases q⟩
  · rename_i a n c e'
    simp only at e' h
    subst e'
    obtain ⟨h1, h2, h3, h4, ⟨vs, h5, h6⟩, h7⟩ := h
    have ea : a = ⟨a.block, 0, none⟩ := by cases a; simp_all
    refine ⟨n, vs.toList.take (n * k), ⟨?_, .inr ⟨a.block, c, vs, by rw [← ea], Nat.zero_le _, h5, h3, h4, h6, rfl⟩⟩, fun _ _ _ q => by cases q; rfl, fun g q => ?_⟩
    · rw [List.length_take, Array.length_toList, h6, Nat.min_eq_left (Nat.mul_le_mul_right _ h3)]
    · cases q
      exact ⟨c, vs, by rw [← ea], h5, h6, h3, h4, rfl, h7⟩
  · exact h.elim

theorem nodup_filterMap_get {S : Type} {f : S → Option Nat} {l : List S} (h : (l.filterMap f).Nodup) {i j : Nat} {x y : S} (hi : l[i]? = some x) (hj : l[j]? = some y) {b : Nat} (hx : f x = some b) (hy : f y = some b) : i = j := by
  induction l generalizing i j with
  | nil => simp at hi
  | cons z l ih =>
    have hl : (l.filterMap f).Nodup := by
      rw [List.filterMap_cons] at h
      split at h
      · exact h
      · exact (List.nodup_cons.1 h).2
    have hno : ∀ (j : Nat) y, l[j]? = some y → f y = some b → f z = some b → False := fun j y hj hy hz => by
      rw [List.filterMap_cons, hz] at h
      exact (List.nodup_cons.1 h).1 (List.mem_filterMap.2 ⟨y, List.mem_of_getElem? hj, hy⟩)
    cases i with
    | zero =>
      simp at hi; subst hi
      cases j with
      | zero => rfl
      | succ j => exact (hno j y (by simpa using hj) hy hx).elim
    | succ i =>
      cases j with
      | zero => simp at hj; subst hj; exact (hno i x (by simpa using hi) hx hy).elim
      | succ j =>
        have := ih hl (i := i) (j := j) (by simpa using hi) (by simpa using hj)
        omega

theorem set_same {S : Type} {l : List S} {i : Nat} {x : S} (h : l[i]? = some x) : l.set i x = l := by
  apply List.ext_getElem?
  intro j
  rw [List.getElem?_set]
  split
  · rename_i e; subst e; simp [h]; exact (List.getElem?_eq_some_iff.1 h).1
  · rfl

theorem filterMap_set {S : Type} {f : S → Option Nat} {l : List S} {i : Nat} {x y : S} (h : l[i]? = some x) (he : f x = f y) : (l.set i y).filterMap f = l.filterMap f := by
  induction l generalizing i with
  | nil => simp at h
  | cons z l ih =>
    cases i with
    | zero => simp at h; subst h; simp [List.filterMap_cons, he]
    | succ i => simp only [List.set_cons_succ, List.filterMap_cons, ih (by simpa using h)]

theorem nodup_set_new {S : Type} {f : S → Option Nat} {l : List S} {i : Nat} {y : S} {b : Nat} (h : (l.filterMap f).Nodup) (hb : f y = some b) (hnew : ∀ x ∈ l, f x ≠ some b) : ((l.set i y).filterMap f).Nodup := by
  induction l generalizing i with
  | nil => simp
  | cons z l ih =>
    have hl : (l.filterMap f).Nodup := by
      rw [List.filterMap_cons] at h
      split at h
      · exact h
      · exact (List.nodup_cons.1 h).2
    cases i with
    | zero =>
      rw [List.set_cons_zero, List.filterMap_cons, hb]
      refine List.nodup_cons.2 ⟨fun hm => ?_, hl⟩
      obtain ⟨x, hx, e⟩ := List.mem_filterMap.1 hm
      exact hnew x (by simp [hx]) e
    | succ i =>
      rw [List.set_cons_succ, List.filterMap_cons]
      have ih' := ih (i := i) hl (fun x hx => hnew x (by simp [hx]))
      split
      · exact ih'
      · rename_i c e
        refine List.nodup_cons.2 ⟨fun hm => ?_, ih'⟩
        obtain ⟨x, hx, e'⟩ := List.mem_filterMap.1 hm
        rcases List.mem_or_eq_of_mem_set hx with q | q
        · rw [List.filterMap_cons, e] at h
          exact (List.nodup_cons.1 h).1 (List.mem_filterMap.2 ⟨x, q, e'⟩)
        · subst q
          rw [hb] at e'
          exact hnew z (by simp) (by rw [e, e'])
end Go.L
