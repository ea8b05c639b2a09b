import Derived.Test.YtfjggobjijeniaaApp
/-! The walk's rule for an append to a slice with room. -/
namespace Go.L
open Go Go.RowKit

theorem cellsAt_news {r : Rho} {w : World} (hok : r.ok w) {b o : Nat} {vs : List Value} (h : ∀ (i : Nat) u, vs[i]? = some u → r ⟨b, o + i, none⟩ = some u) :
    ∀ (j : Nat) u, vs[j]? = some u → w.cell? ((⟨b, o, none⟩ : Addr).add j) = some u := fun j u hj => by
  rw [add_off]; exact hok.cell (h j u hj)

theorem HoldsAt.append {E : Env} {g : Ctx} {r : Rho} {a : Act} {w : World} (H : HoldsAt E g r a w) {i : Nat} {v : Value} {e k t ty bytes : Nat} (hi : g.rooms[i]? = some (v, e, k)) (hT : TE E.P t e k bytes) (hk0 : 0 < k)
    {T S : Type} {f : T → List A} {L ys : List T} {f2 : S → List A} {M : List S} (hk : ∀ y, (f y).length = k) (hk2 : ∀ y, (f2 y).length = k) (hOne : ∀ y, AllOne (f2 y)) (hM : M.map f2 = ys.map f)
    (hv : (A.sl k f L).p r v) {yv : Value} (hy : (A.sl k f2 M).p r yv) (hb : (L.length + M.length) * bytes ≤ 140737488355328) (h63 : L.length + M.length ≤ maxLen) :
    ∃ v' w' r', (Builtin.append_ #[t, t] ty #[v, yv]).run E.P w = .ok v' w' ∧ HoldsAt E { g with rooms := g.rooms.set i (v', e, k) } r' a w' ∧ r.le r' ∧ (A.sl k f (L ++ ys)).p r' v' ∧
      (∀ (b : Nat) (o : Obj), (∀ cs ty fr, o ≠ Obj.cells cs ty fr) → w.heap[b]? = some o → w'.heap[b]? = some o) := by
  have hmem := List.mem_of_getElem? hi
  obtain ⟨n, xs, hown, hn1, hn2⟩ := (H.room _ hmem).owns
  obtain ⟨ya, m, c, news, rfl, hm, hmc, hcm, hnv, hnl, hnr⟩ := sl_vals hy hk2
  obtain ⟨va, n', cap0, xs', hve, hn', hnc0, hcap0, hxv, hxl, hxr⟩ := sl_vals hv hk
  have hnn : n' = n := hn1 _ _ _ hve
  subst hnn
  have hlen : ys.length = M.length := by have := congrArg List.length hM; simpa using this.symm
  have hflat : M.flatMap f2 = ys.flatMap f := by rw [List.flatMap_def, List.flatMap_def, hM]
  have hnOne : ∀ u ∈ news, u.oneCell' = true := flat_one hOne hnv
  have hnews : m = 0 ∨ ∃ a, ya = some a ∧ ∀ (j : Nat) u, news[j]? = some u → w.cell? (a.add j) = some u := by
    rcases hnr with rfl | ⟨b, o, rfl, hq⟩
    · exact .inl (by simpa using hm)
    · exact .inr ⟨_, rfl, cellsAt_news H.ok hq⟩
  obtain ⟨v', w', hrun, hap⟩ := append_run (ty := ty) (c := c) hT hk0 hown hnl hnews hnOne (by rw [hn', hm]; exact hb) (by rw [hn', hm]; exact h63)
  have hall : All2 r ((L ++ ys).flatMap f) (xs' ++ news) := by
    rw [List.flatMap_append, ← hflat]; exact hxv.append hnv
  cases hap with
  | nothing hm0 =>
    subst hm0
    have hMe : M = [] := List.eq_nil_of_length_eq_zero hm.symm
    have hye : ys = [] := List.eq_nil_of_length_eq_zero (by rw [hlen, hMe]; rfl)
    subst hye
    refine ⟨v, w, r, hrun, ?_, r.le_refl, by simpa using hv, fun _ _ _ h => h⟩
    rw [set_same hi]; exact H
  | room gb cap cur hvv hg hfit =>
    obtain ⟨cap', cur', hv2, hg2, hcs, hnc, hcm', hxs, hspare⟩ := hn2 gb (by rw [hvv]; rfl)
    rw [hvv] at hv2; cases hv2
    rw [hg] at hg2; cases hg2
    have hlt : gb < w.heap.size := (Array.getElem?_eq_some_iff.1 hg).1
    obtain ⟨hbase, hnotown⟩ := H.roomB _ hmem gb (by rw [hvv]; rfl)
    have hfitk : n' * k + news.length ≤ cur.toList.length := by
      rw [hnl, Array.length_toList, hcs, ← Nat.add_mul]; exact Nat.mul_le_mul_right _ hfit
    have hin : ∀ (j : Nat) u, news[j]? = some u → (over cur.toList (n' * k) news)[n' * k + j]? = some u := fun j u hj => by
      have hjl := (List.getElem?_eq_some_iff.1 hj).1
      unfold over
      rw [List.getElem?_append_left (by simp at hfitk ⊢; omega), List.getElem?_append_right (by simp; omega)]
      have e : n' * k + j - (List.take (n' * k) cur.toList).length = j := by simp at hfitk ⊢; omega
      rw [e]; exact hj
    have hlow : ∀ (j : Nat), j < n' * k → (over cur.toList (n' * k) news)[j]? = cur[j]? := fun j hj => by
      unfold over
      rw [List.append_assoc, List.getElem?_append_left (by simp at hfitk ⊢; omega), List.getElem?_take, if_pos hj]
      simp
    let r' : Rho := fun x => if x.block = gb ∧ x.spot = none ∧ n' * k ≤ x.off ∧ x.off < (n' + m) * k then (over cur.toList (n' * k) news)[x.off]? else r x
    have hr'out : ∀ x : Addr, ¬ (x.block = gb ∧ x.spot = none ∧ n' * k ≤ x.off ∧ x.off < (n' + m) * k) → r' x = r x := fun x hx => by
      show (if _ then _ else _) = _
      rw [if_neg hx]
    have hr'in : ∀ x : Addr, (x.block = gb ∧ x.spot = none ∧ n' * k ≤ x.off ∧ x.off < (n' + m) * k) → r' x = (over cur.toList (n' * k) news)[x.off]? := fun x hx => by
      show (if _ then _ else _) = _
      rw [if_pos hx]
    have hle : r.le r' := fun x u e => by
      rw [hr'out]; exact e
      rintro ⟨e1, e2, e3, _⟩
      have := hspare x.off none e3
      have e4 : x = ⟨gb, x.off, none⟩ := by cases x; simp_all
      rw [e4, this] at e; cases e
    have hcell : ∀ (o : Nat), (w.putObj gb (.cells (over cur.toList (n' * k) news).toArray e (0, 0))).cell? ⟨gb, o, none⟩ = (over cur.toList (n' * k) news)[o]? := fun o => by
      simp [World.cell?, World.putObj_heap_same hlt]
    have hgc : ∀ (o : Nat), gc (w.putObj gb (.cells (over cur.toList (n' * k) news).toArray e (0, 0))).heap[gb]? ⟨gb, o, none⟩ = (over cur.toList (n' * k) news)[o]? := fun o => by
      simp [gc, World.putObj_heap_same hlt]
    have hunfg : Unf (w.putObj gb (.cells (over cur.toList (n' * k) news).toArray e (0, 0))) gb := fun cs' ty' fr e' => by
      rw [World.putObj_heap_same hlt] at e'; cases e'; rfl
    have hother : ∀ b, b ≠ gb → (w.putObj gb (.cells (over cur.toList (n' * k) news).toArray e (0, 0))).heap[b]? = w.heap[b]? := fun b hb => World.putObj_heap_other hb
    have hres : (A.sl k f (L ++ ys)).p r' (.slice (some ⟨gb, 0, none⟩) (n' + m) cap) := by
      refine sl_of_vals hk (by rw [List.length_append, hlen, hn', hm]) hfit hcm' (hall.mono hle) fun j u hj => ?_
      by_cases q : j < n' * k
      · rw [List.getElem?_append_left (by omega)] at hj
        rw [hr'out _ (fun h => by have := h.2.2.1; simp at this; omega)]
        rcases hxr with hL | ⟨b, o, hao, hq⟩
        · subst hL
          have hn0 : n' = 0 := by simpa using hn'
          subst hn0; simp at q
        · rw [hvv] at hve
          cases hve
          cases hao
          have := hq j u hj
          rwa [Nat.zero_add] at this
      · rw [List.getElem?_append_right (by omega), hxl] at hj
        have hjl := (List.getElem?_eq_some_iff.1 hj).1
        rw [hr'in _ ⟨rfl, rfl, by simp; omega, by simp; rw [Nat.add_mul]; omega⟩]
        have := hin _ u hj
        rwa [show n' * k + (j - n' * k) = j from by omega] at this
    refine ⟨_, _, r', hrun, ?_, hle, hres, fun b o ho hbo => ?_⟩
    · exact {
        le := H.le.trans_le hle
        cps := fun c hc => Rho.le_trans (H.cps c hc) hle
        ok := fun x u ex => by
          by_cases q : x.block = gb ∧ x.spot = none ∧ n' * k ≤ x.off ∧ x.off < (n' + m) * k
          · rw [hr'in x q] at ex
            have e4 : x = ⟨gb, x.off, none⟩ := by cases x; simp_all
            rw [e4, hgc]; exact ex
          · rw [hr'out x q] at ex
            have hw := H.ok x u ex
            by_cases hxb : x.block = gb
            · have hsp : x.spot = none := by
                unfold gc at hw
                rw [hxb, hg] at hw
                simp only at hw
                cases hs : x.spot with
                | none => rfl
                | some s => rw [hs] at hw; simp at hw
              have e4 : x = ⟨gb, x.off, none⟩ := by cases x; simp_all
              have hoff : x.off < n' * k := by
                rcases Nat.lt_or_ge x.off (n' * k) with h | h
                · exact h
                · have := hspare x.off none h
                  rw [e4, this] at ex; cases ex
              rw [e4, hgc, hlow _ hoff]
              rw [e4] at hw
              simpa [gc, hg] using hw
            · rw [hother _ hxb]; exact hw
        fresh := fun x u ex => by
          by_cases q : x.block = gb ∧ x.spot = none ∧ n' * k ≤ x.off ∧ x.off < (n' + m) * k
          · exact .inr ⟨q.1 ▸ hbase, q.1 ▸ hunfg⟩
          · rw [hr'out x q] at ex
            exact (H.fresh x u ex).elim .inl fun q => .inr ⟨q.1, by
              by_cases hxb : x.block = gb
              · rw [hxb]; exact hunfg
              · exact q.2.same (hother _ hxb)⟩
        size := by rw [World.putObj_size]; exact H.size
        block := fun b hb hX => by
          rw [hother b (fun e' => by subst e'; rcases hbase with h | h; exact hX h; omega)]; exact H.block b hb hX
        unf := fun b hb hu => by
          by_cases hxb : b = gb
          · rw [hxb]; exact hunfg
          · exact (H.unf b hb hu).same (hother _ hxb)
        os := H.os
        tape := H.tape
        output := H.output
        slots := Slots.mono H.slots hle
        own := fun x hx => by
          have hne : x.1 ≠ gb := fun e' => hnotown (List.mem_map.2 ⟨x, hx, e'⟩)
          obtain ⟨k1, vs, k2, k3⟩ := H.own x hx
          exact ⟨fun o s => by rw [hr'out _ (fun h => hne h.1)]; exact k1 o s, vs, by rw [hother _ hne]; exact k2, k3.mono hle⟩
        ownB := H.ownB
        nodup := H.nodup
        room := fun x hx => by
          obtain ⟨j, hj, ex⟩ := List.getElem_of_mem hx
          rw [List.getElem_set] at ex
          by_cases hij : i = j
          · rw [if_pos hij] at ex
            subst ex
            refine ⟨rfl, rfl, hfit, hcm', ⟨_, World.putObj_heap_same hlt, ?_⟩, fun o s ho => ?_⟩
            · simp only [List.size_toArray]
              rw [over_length hfitk, Array.length_toList]; exact hcs
            · simp only at ho
              rw [hr'out _ (fun h => by have := h.2.2.2; simp at this; omega)]
              exact hspare o s (by rw [Nat.add_mul] at ho; omega)
          · rw [if_neg hij] at ex
            have hj' : j < g.rooms.length := by simpa using hj
            have hxj : g.rooms[j]? = some x := by rw [List.getElem?_eq_getElem hj', ex]
            have hR := H.room x (List.mem_of_getElem? hxj)
            have hne : ∀ b', roomBlock x.1 = some b' → b' ≠ gb := fun b' hb' e' => by
              subst e'
              exact hij (nodup_filterMap_get (f := fun x : Value × Nat × Nat => roomBlock x.1) H.roomN hi hxj (b := b') (by rw [hvv]; rfl) hb')
            unfold RoomOk at hR ⊢
            split at hR
            · exact hR
            · rename_i ad nn cc e'
              obtain ⟨h1, h2, h3, h4, ⟨vs, h5, h6⟩, h7⟩ := hR
              have hnb : ad.block ≠ gb := hne _ (by rw [e']; rfl)
              exact ⟨h1, h2, h3, h4, ⟨vs, by rw [hother _ hnb]; exact h5, h6⟩, fun o s ho => by rw [hr'out ⟨ad.block, o, s⟩ (fun h => hnb h.1)]; exact h7 o s ho⟩
            · exact hR
        roomB := fun x hx b hb' => by
          rcases List.mem_or_eq_of_mem_set hx with q | q
          · exact H.roomB x q b hb'
          · subst q
            cases hb'
            exact ⟨hbase, hnotown⟩
        roomN := by
          have : (g.rooms.set i (.slice (some ⟨gb, 0, none⟩) (n' + m) cap, e, k)).filterMap (fun x => roomBlock x.1) = g.rooms.filterMap (fun x => roomBlock x.1) :=
            filterMap_set (f := fun x : Value × Nat × Nat => roomBlock x.1) hi (by rw [hvv]; rfl)
          rw [this]; exact H.roomN
        mp := H.mp.stay hle (fun x hx o sp => by
          have hne : x.1 ≠ gb := fun e => by
            obtain ⟨arr, cl, h1, _⟩ := H.mp.at_ x hx
            rw [e, hg] at h1; cases h1
          rw [hr'out ⟨x.1, o, sp⟩ (fun h => hne h.1)]; exact H.mp.un x hx o sp) fun k o ho hk => by
          have hkb : k ≠ gb := fun e => by
            subst e; rw [hg] at hk; cases hk; cases ho
          rw [hother k hkb]; exact hk }
    · rw [hother b (fun e' => by subst e'; rw [hg] at hbo; cases hbo; exact ho _ _ _ rfl)]; exact hbo
  | grow cap rest hg1 hg2 hg3 =>
    have hxs' : xs' = xs := by
      apply List.ext_getElem?
      intro j
      by_cases hj : j < n' * k
      · rcases hxr with hL | ⟨b, o, hao, hq⟩
        · subst hL
          have hn0 : n' = 0 := by simpa using hn'
          subst hn0; simp at hj
        · subst hao
          obtain ⟨cap', cur', hv2, hgc, hcs, hnc, hcm', hxs, hspare⟩ := hn2 b (by rw [hve]; rfl)
          rw [hve] at hv2; cases hv2
          have h1 : xs'[j]? = some (xs'[j]'(by omega)) := List.getElem?_eq_getElem _
          have h2 := H.ok _ _ (hq j _ h1)
          rw [h1, hxs, List.getElem?_take, if_pos hj]
          rw [Nat.zero_add] at h2
          simpa [gc, hgc] using h2.symm
      · have e1 : xs'[j]? = none := List.getElem?_eq_none (by omega)
        have e2 : xs[j]? = none := List.getElem?_eq_none (by rw [hown.1]; omega)
        rw [e1, e2]
    have hsz : (xs.toArray ++ news.toArray ++ rest).toList = xs ++ news ++ rest.toList := by simp
    let r' : Rho := fun x => if x.block = w.heap.size ∧ x.spot = none ∧ x.off < (n' + m) * k then (xs ++ news)[x.off]? else r x
    have hr'out : ∀ x : Addr, ¬ (x.block = w.heap.size ∧ x.spot = none ∧ x.off < (n' + m) * k) → r' x = r x := fun x hx => by
      show (if _ then _ else _) = _
      rw [if_neg hx]
    have hr'in : ∀ x : Addr, (x.block = w.heap.size ∧ x.spot = none ∧ x.off < (n' + m) * k) → r' x = (xs ++ news)[x.off]? := fun x hx => by
      show (if _ then _ else _) = _
      rw [if_pos hx]
    have hold : ∀ x : Addr, x.block < w.heap.size → r' x = r x := fun x hx => hr'out x (fun h => by omega)
    have hle : r.le r' := fun x u ex => by rw [hold x (Rho.ok_lt H.ok ex)]; exact ex
    have hlenxs : (xs ++ news).length = (n' + m) * k := by rw [List.length_append, hown.1, hnl, Nat.add_mul]
    have gr : Grow r w r' (w.drew.alloc (.cells (xs.toArray ++ news.toArray ++ rest) e)) := by
      refine ⟨hle, fun x u ex => ?_, fun x u ex => ?_, ((Below.refl _ _).drew).alloc (by simp) _⟩
      · by_cases q : x.block = w.heap.size ∧ x.spot = none ∧ x.off < (n' + m) * k
        · rw [hr'in x q] at ex
          have e4 : x = ⟨w.drew.heap.size, x.off, none⟩ := by cases x; simp_all
          rw [e4, World.alloc_heap_new]
          have : (xs ++ news ++ rest.toList)[x.off]? = some u := by rw [List.getElem?_append_left (by rw [hlenxs]; exact q.2.2)]; exact ex
          have k2 : (xs.toArray ++ news.toArray ++ rest).toList[x.off]? = some u := by rw [hsz]; exact this
          rw [Array.getElem?_toList] at k2
          exact k2
        · rw [hr'out x q] at ex
          have := Rho.ok_lt H.ok ex
          rw [Below.heap_alloc _ _ _ (by simpa using this)]
          exact H.ok x u ex
      · by_cases q : x.block = w.heap.size ∧ x.spot = none ∧ x.off < (n' + m) * k
        · refine .inr ⟨by omega, fun cs' ty' fr e' => ?_⟩
          have e5 : x.block = w.drew.heap.size := q.1
          rw [e5, World.alloc_heap_new] at e'
          cases e'; rfl
        · rw [hr'out x q] at ex; exact .inl ex
    have hres : (A.sl k f (L ++ ys)).p r' (.slice (some ⟨w.heap.size, 0, none⟩) (n' + m) cap) := by
      rw [hxs'] at hall
      refine sl_of_vals hk (by rw [List.length_append, hlen, hn', hm]) hg1 hg2 (hall.mono hle) fun j u hj => ?_
      rw [hr'in _ ⟨rfl, rfl, by have := (List.getElem?_eq_some_iff.1 hj).1; rw [hlenxs] at this; exact this⟩]
      exact hj
    have H' := H.grow gr (a' := a) (Slots.mono H.slots hle)
    refine ⟨_, _, r', hrun, ?_, hle, hres, fun b o ho hbo => ?_⟩
    · exact { H' with
        room := fun x hx => by
          rcases List.mem_or_eq_of_mem_set hx with q | q
          · exact H'.room x q
          · subst q
            refine ⟨rfl, rfl, hg1, hg2, ⟨_, World.alloc_heap_new w.drew _, ?_⟩, fun o s ho => ?_⟩
            · simp only [Array.size_append, List.size_toArray, hg3, hown.1, hnl]
              rw [← Nat.add_mul, ← Nat.add_mul]; congr 1; omega
            · simp only at ho
              cases hs : r' ⟨w.heap.size, o, s⟩ with
              | none => rfl
              | some u =>
                rw [hr'out _ (fun h => by have := h.2.2; simp at this; omega)] at hs
                exact absurd (Rho.ok_lt H.ok hs) (by simp)
        roomB := fun x hx b hb' => by
          rcases List.mem_or_eq_of_mem_set hx with q | q
          · exact H'.roomB x q b hb'
          · subst q
            cases hb'
            refine ⟨.inr H.size, fun hm' => ?_⟩
            obtain ⟨z, hz, ez⟩ := List.mem_map.1 hm'
            have := (H.own z hz).lt
            have ez : z.1 = w.heap.size := ez
            omega
        roomN := nodup_set_new (f := fun x : Value × Nat × Nat => roomBlock x.1) (b := w.heap.size) H.roomN rfl (fun x hx e' => by
          have := (H.room x hx).lt e'; omega) }
    · have hbl := (Array.getElem?_eq_some_iff.1 hbo).1
      exact (gr.below.block b hbl).trans hbo

section
variable {E : Env} {g : Ctx} {Q : Exit → Act → World → Prop} {ops : Array Oper} {rest : List Oper}
/-- x = append(x, y...) where x has room of its own. -/
theorem WL_append (i : Nat) {d t ty : Nat} {x y : Operand} {pos : String} {aft : Array Edge} {v : Value} {e k bytes : Nat} {T S : Type} {f : T → List A} {L : List T} (ys : List T) {f2 : S → List A} {M : List S}
    (hT : TE E.P t e k bytes) (hr : Reads g.sl true [(true, x, A.slv v k f L), (true, y, A.sl k f2 M)]) (hi : g.rooms[i]? = some (v, e, k)) (hk0 : 0 < k)
    (hk : ∀ y, (f y).length = k) (hk2 : ∀ y, (f2 y).length = k) (hOne : ∀ y, AllOne (f2 y)) (hM : M.map f2 = ys.map f)
    (hb : (L.length + M.length) * bytes ≤ 140737488355328) (h63 : L.length + M.length ≤ maxLen) (hd : Nat.ble (d + 1) E.n = true)
    (h : ∀ v', WL E ops rest { g with sl := (d, true, A.slv v' k f (L ++ ys)) :: g.sl, rooms := g.rooms.set i (v', e, k) } Q) :
    WL E ops (⟨some d, .call { callee := .builtin .append, args := #[x, y], argTypes := #[t, t] }, ty, pos, aft, none⟩ :: rest) g Q := by
  intro a w ⟨h1, h2, r, H⟩
  have hu := hr.use rfl H.slots
  obtain ⟨hxv, hxs⟩ := hu (true, x, A.slv v k f L) (by simp) rfl
  have hxv : a.eval x = v := hxv
  have hxs : (A.sl k f L).p r v := hxv ▸ hxs
  have hys := hu (true, y, A.sl k f2 M) (by simp) rfl
  obtain ⟨v', w', r', hrun, H', hle, hres, hkeep⟩ := H.append (ty := ty) hi hT hk0 hk hk2 hOne hM hxs hys hb h63
  have hexec : (execOp a.eval ⟨some d, .call { callee := .builtin .append, args := #[x, y], argTypes := #[t, t] }, ty, pos, aft, none⟩).run E.P w = .ok (.value v') w' := by
    simp only [execOp, resolve, Sem.run_bind, Sem.run_pure, Result.andThen_ok, invoke, builtin]
    simp only [List.map_toArray, List.map_cons, List.map_nil, hxv, hrun, Result.andThen_ok]
  refine wpListIn_value rfl (by simp) (fun _ => trivial) hexec (h v' _ _ ⟨by rw [size_put]; exact h1, ?_, r', ?_⟩)
  · rw [defers_put]
    have : ∀ l : List Deferred, Marks E w l → Marks E w' l := by
      intro l
      induction l with
      | nil => intro _; trivial
      | cons d l ih => intro ⟨⟨b, q1, q2, q3, q4⟩, q5⟩; exact ⟨⟨b, q1, q2, hkeep b _ (fun _ _ _ e => by cases e) q3, q4⟩, ih q5⟩
    exact this _ h2
  · have hlt : d < a.tmps.size := by rw [h1]; exact Nat.le_of_ble_eq_true hd
    exact { H' with slots := Slots.put H'.slots hlt (fun _ => ⟨rfl, hres⟩) (fun hc => by cases hc) }

/-- A nil slice has room for anything. -/
theorem WL_roomNil {l : List Oper} (s : Nat) (e k : Nat) {T : Type} (f : T → List A) (hs : look g.sl s = some (true, A.val (.slice none 0 0)))
    (h : WL E ops l { g with sl := (s, true, A.slv (.slice none 0 0) k f []) :: g.sl, rooms := (.slice none 0 0, e, k) :: g.rooms } Q) : WL E ops l g Q := by
  intro a w ⟨h1, h2, r, H⟩
  refine h a w ⟨h1, h2, r, ?_⟩
  exact { H with
    slots := fun s' c x e' => by
      unfold look at e'
      by_cases q : s = s'
      · subst q
        simp at e'
        obtain ⟨rfl, rfl⟩ := e'
        have hv : a.tmps.getD s undef = .slice none 0 0 := (H.slots s true _ hs).1 rfl
        refine ⟨fun _ => ?_, fun e => by cases e⟩
        rw [hv]
        exact ⟨rfl, none, 0, 0, rfl, rfl, Nat.le_refl _, Nat.zero_le _, fun h => absurd rfl h⟩
      · rw [if_neg (by simpa using q)] at e'
        exact H.slots s' c x e'
    room := fun x hx => by
      rcases List.mem_cons.1 hx with rfl | hx
      · exact ⟨rfl, rfl⟩
      · exact H.room x hx
    roomB := fun x hx b hb => by
      rcases List.mem_cons.1 hx with rfl | hx
      · cases hb
      · exact H.roomB x hx b hb
    roomN := by
      rw [List.filterMap_cons]
      exact H.roomN }
end
end Go.L
