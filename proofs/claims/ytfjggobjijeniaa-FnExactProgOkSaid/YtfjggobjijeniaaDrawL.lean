import Derived.Test.YtfjggobjijeniaaCal9
/-! Regions that draw their order, with moves that may come late: they are taken first. -/
namespace Go.L
open Go Go.RowKit

/-- The prefix of m operations may go in any order, those of 'late' even among the tail; the rest is forced. -/
def drawOkL (l : List Oper) (m : Nat) (late : List Nat) : Bool :=
  let ds := (l.take m).map (·.dst)
  let ms := masksFrom l []
  (l.zipIdx.all fun (o, i) => (edgesOf o).all fun j => Nat.blt j i) &&
  (l.zipIdx.all fun (o, i) => if Nat.ble m i then ((List.range i).all fun j => late.contains j || (ms.getD i 0).testBit j) else
    (o.dst.isSome && ((ds.zipIdx.all fun (d, j) => j == i || d != o.dst) &&
      ((looks l o).all fun s => ds.zipIdx.all fun (d, j) => d != some s || (Nat.blt j i && (edgesOf o).contains j)))))

/-- What 'drawOkL' says. -/
structure DrawOkL (l : List Oper) (m : Nat) (late : List Nat) : Prop where
  lt : ∀ (i : Nat) o, l[i]? = some o → ∀ j ∈ edgesOf o, j < i
  tail : ∀ i, m ≤ i → i < l.length → ∀ j, j < i → j ∉ late → ((masksFrom l []).getD i 0).testBit j = true
  dst : ∀ (i : Nat) o, l[i]? = some o → i < m → ∀ (j : Nat) o', l[j]? = some o' → j < m → j ≠ i → o'.dst ≠ o.dst
  look : ∀ (i : Nat) o, l[i]? = some o → i < m → ∀ s ∈ looks l o, ∀ (j : Nat) o', l[j]? = some o' → j < m → o'.dst = some s → j < i ∧ j ∈ edgesOf o

theorem drawOkL_spec {l : List Oper} {m : Nat} {late : List Nat} (h : drawOkL l m late = true) : DrawOkL l m late := by
  unfold drawOkL at h
  simp only [Bool.and_eq_true, List.all_eq_true] at h
  obtain ⟨h1, h2⟩ := h
  refine ⟨?_, ?_, ?_, ?_⟩
  · intro i o ho j hj
    have := h1 (o, i) (mem_zipIdx ho) j hj
    exact Nat.le_of_ble_eq_true this
  · intro i hmi hi j hj hl
    have ho : l[i]? = some (l[i]) := List.getElem?_eq_getElem hi
    have := h2 (l[i], i) (mem_zipIdx ho)
    simp only [Nat.ble_eq, hmi, if_true] at this
    have := List.all_eq_true.1 this j (List.mem_range.2 hj)
    simpa [hl] using this
  · intro i o ho hi j o' ho' hj hne
    have := h2 (o, i) (mem_zipIdx ho)
    simp only [Nat.ble_eq, Nat.not_le.2 hi, if_false, Bool.and_eq_true, List.all_eq_true] at this
    have k := this.2.1 (o'.dst, j) (mem_zipIdx (by simp [hj, ho']))
    simpa [hne] using k
  · intro i o ho hi s hs j o' ho' hj hd
    have := h2 (o, i) (mem_zipIdx ho)
    simp only [Nat.ble_eq, Nat.not_le.2 hi, if_false, Bool.and_eq_true, List.all_eq_true] at this
    have k := this.2.2 s hs (o'.dst, j) (mem_zipIdx (by simp [hj, ho']))
    simp [hd] at k
    exact ⟨k.1, k.2⟩

section
variable {P : Program} {Q : Exit → Act → World → Prop} {l : List Oper} {m : Nat} {late : List Nat} {ro : Option Nat}

theorem tail_anyL (D : DrawOkL l m late) (hlm : ∀ i ∈ late, i < m) : ∀ (t j : Nat) (S : Array Bool) (a : Act) (w : World), j + t = l.length → m ≤ j → S.size = l.length → (∀ i, S.getD i false = decide (i < j)) →
    wpListIn (fz ro) 9 P l.toArray Q (l.drop j) a w → wpAnyIn (fz ro) 9 P .any l.toArray Q t S a w := by
  intro t
  induction t with
  | zero =>
    intro j S a w hj hm hS hl h
    refine ⟨?_, by rw [List.drop_eq_nil_of_le (by omega)] at h; exact h⟩
    refine List.eq_nil_iff_forall_not_mem.2 fun i hi => ?_
    obtain ⟨h1, o, ho, _⟩ := ready_iff.1 hi
    obtain ⟨h2, h3⟩ := getD_false_of_true h1
    rw [hl i] at h2
    simp at h2; omega
  | succ t ih =>
    intro j S a w hj hm hS hl h
    have hlt : j < l.length := by omega
    have ho : l[j]? = some l[j] := List.getElem?_eq_getElem hlt
    have hself : j ∈ Region.ready .any l.toArray S := ready_iff.2 ⟨getD_true_of_false (by rw [hl]; simp) (by omega), l[j], ho, fun k hk => by rw [hl]; simpa using D.lt j _ ho k hk⟩
    refine ⟨fun e => by rw [e] at hself; simp at hself, fun i hi => ?_⟩
    obtain ⟨h1, o, hoi, hr⟩ := ready_iff.1 hi
    obtain ⟨h2, h3⟩ := getD_false_of_true h1
    have hij : i = j := by
      rw [hl i] at h2
      simp at h2
      rcases Nat.lt_or_ge j i with q | q
      · exfalso
        have hb := D.tail i (by omega) (by omega) j q (fun hc => by have := hlm _ hc; omega)
        have := masks_closed (fun k => S.getD k false) l [] 0 rfl (by simp) (by simpa using D.lt) (by
          intro i' o' ho' hSi j' hj'
          simp only [Nat.zero_add] at hSi
          rw [hl] at hSi ⊢
          have := D.lt i' o' ho' j' hj'
          simp at hSi ⊢; omega) i o hoi hr j (by simpa using hb)
        rw [hl] at this; simp at this
      · omega
    subst hij
    rw [List.drop_eq_getElem_cons hlt] at h
    have hop : wpOpIn (fz ro) 9 P l.toArray Q i (wpListIn (fz ro) 9 P l.toArray Q (l.drop (i + 1))) a w := by
      unfold wpOpIn
      simp only [List.getElem?_toArray, ho]
      unfold wpListIn at h
      exact h
    refine wpOpIn_mono (fun a w hk => ih (i + 1) _ a w (by omega) (by omega) (by simpa using hS) (fun k => ?_) hk) hop
    rw [getD_set (by omega), hl]
    by_cases hk : k = i
    · subst hk; simp
    · simp [hk]; omega
end


def isMove : Oper → Bool
  | ⟨some _, .move (.tmp _), _, _, _, none⟩ => true
  | _ => false
/-- The late moves can be taken first. -/
def lateOk (l : List Oper) (m : Nat) : List Nat → Array Bool → Bool
  | [], _ => Region.noSelect l.toArray
  | i :: ls, S => Nat.blt i m && (match l[i]? with | some o => isMove o | none => false) && Region.free .any l.toArray S i && (Region.ready .any l.toArray S).contains i && lateOk l m ls (S.setIfInBounds i true)
theorem lateOk_lt {l : List Oper} {m : Nat} : ∀ {ls : List Nat} {S : Array Bool}, lateOk l m ls S = true → ∀ i ∈ ls, i < m
  | [], _, _ => fun _ h => by cases h
  | j :: ls, S, h => fun i hi => by
    unfold lateOk at h
    simp only [Bool.and_eq_true] at h
    rcases List.mem_cons.1 hi with rfl | hi
    · exact Nat.le_of_ble_eq_true h.1.1.1.1
    · exact lateOk_lt h.2 i hi
theorem lateOk_sel {l : List Oper} {m : Nat} : ∀ {ls : List Nat} {S : Array Bool}, lateOk l m ls S = true → Region.noSelect l.toArray = true
  | [], _, h => h
  | j :: ls, S, h => by
    unfold lateOk at h
    simp only [Bool.and_eq_true] at h
    exact lateOk_sel h.2
def NoPanic (Q : Exit → Act → World → Prop) : Exit → Act → World → Prop
  | .panic _, _, _ => False
  | e, a, w => Q e a w
theorem isMove_spec {o : Oper} (h : isMove o = true) : ∃ d s, o.dst = some d ∧ o.op = .move (.tmp s) ∧ o.guard = none := by
  unfold isMove at h
  split at h
  · exact ⟨_, _, rfl, rfl, rfl⟩
  · cases h

theorem Fin_nop {E : Env} {g : Ctx} {Q : Exit → Act → World → Prop} (h : Fin E g .normal Q) : Fin E g .normal (NoPanic Q) := h

theorem W_drawL {E : Env} {g : Ctx} {Q : Exit → Act → World → Prop} {id : Nat} {l : List Oper} (m : Nat) (late : List Nat) (hmix : E.P.follows .mixedOrders = true) (hm : Nat.ble m l.length = true) (hok : drawOkL l m late = true)
    (hlate : lateOk l m late (Array.replicate l.length false) = true) (hro : E.rnd = none)
    (h : Chain E l.toArray g.oc (l.take m) g.sl fun av => WL E l.toArray (l.drop m) { g with sl := av } (NoPanic Q)) : W E (.region id l.toArray true) g Q := by
  have hm := Nat.le_of_ble_eq_true hm
  have D := drawOkL_spec hok
  have hlm := lateOk_lt hlate
  obtain ⟨fs, hfl, hK, hst⟩ := h.split
  have hfl : fs.length = m := by rw [hfl]; simp [hm]
  have hstep : ∀ (i : Nat) o f, l[i]? = some o → i < m → fs[i]? = some f → Step1 E l.toArray g.oc ((fs.take i).reverse ++ g.sl) o f := fun i o f ho hi hf => hst i o f (by simp [hi, ho]) hf
  have hdst : ∀ (i : Nat) o f, l[i]? = some o → i < m → fs[i]? = some f → o.dst = some f.1 := fun i o f ho hi hf => (hstep i o f ho hi hf).1
  have getop : ∀ i, i < m → ∃ o f, l[i]? = some o ∧ fs[i]? = some f := fun i hi =>
    ⟨l[i]'(by omega), fs[i]'(by omega), List.getElem?_eq_getElem _, List.getElem?_eq_getElem _⟩
  have stepP : ∀ (S : Array Bool) (a : Act) (w : World), PState E g l m fs S a w → ∀ (i : Nat) o, l[i]? = some o → i < m → S.getD i false = false → (∀ k ∈ edgesOf o, S.getD k false = true) →
      ∀ (Q' : Exit → Act → World → Prop) (K : Act → World → Prop), (∀ a' w', PState E g l m fs (S.setIfInBounds i true) a' w' → K a' w') →
      if Region.wanted o (yielded l.toArray a.tmps) then o.wpIn (fz E.rnd) 9 E.P a w K Q' else (∀ f, o.about E.P w a.eval = some f → (fz E.rnd).fn f) ∧ K (a.put o.dst undef) w := by
    intro S a w p i o ho him hSi hr Q' K hK'
    have hilt : i < l.length := by omega
    obtain ⟨_, f, _, hf⟩ := getop i him
    have hs := hstep i o f ho him hf
    obtain ⟨r, H, hg, hfacts⟩ := p.at_
    have hsl : ∀ s ∈ o.looksAt l.toArray, ∀ c x, look ((fs.take i).reverse ++ g.sl) s = some (c, x) → (c = true → x.p r (a.tmps.getD s undef)) ∧ (c = false → a.tmps.getD s undef = undef) := by
      intro s hsm c x e
      rw [looks_eq] at hsm
      rcases look_append e with q | ⟨q1, q2⟩
      · obtain ⟨j, hj, he⟩ := List.getElem_of_mem (List.mem_reverse.1 q)
        have hj' : j < i := by simp at hj; omega
        have hfj : fs[j]? = some (s, c, x) := by
          rw [← he, List.getElem_take]
          exact List.getElem?_eq_getElem _
        obtain ⟨oj, fj, hoj, hfj'⟩ := getop j (by omega)
        rw [hfj] at hfj'
        cases hfj'
        have hd := hdst j oj _ hoj (by omega) hfj
        have hk := D.look i o ho him s hsm j oj hoj (by omega) hd
        exact hfacts j (s, c, x) hfj (hr j hk.2)
      · refine hg s c x q1 fun f' hf' e' => ?_
        obtain ⟨j, hj, he⟩ := List.getElem_of_mem hf'
        have hfj : fs[j]? = some f' := by rw [List.getElem?_eq_getElem hj, he]
        obtain ⟨oj, fj, hoj, hfj'⟩ := getop j (by omega)
        have hd := hdst j oj f' hoj (by omega) hfj
        rw [e'] at hd
        have hk := D.look i o ho him s hsm j oj hoj (by omega) hd
        refine q2 f' (List.mem_reverse.2 ?_) e'
        exact List.mem_of_getElem? (i := j) (by rw [List.getElem?_take]; simp [hk.1, hfj])
    exact step_sem (Q := Q') hs H.ok H.oc p.tmps hsl (K := K) (fun v s w' gr hv hun => by
      refine hK' _ _ ?_
      have hd : Nat.ble (f.1 + 1) E.n = true := hs.2.1
      have hlt : f.1 < a.tmps.size := by rw [p.tmps]; exact Nat.le_of_ble_eq_true hd
      refine ⟨by simpa using p.size, ?_, ?_, by rw [size_put]; exact p.tmps, by rw [defers_put]; exact p.defers.grow H gr, s, ?_, ?_, ?_⟩
      · intro j hj
        rw [getD_set (by rw [p.size]; omega), p.tail j hj]
        simp; omega
      · intro j oj hoj hSj k' hk'
        rw [getD_set (by rw [p.size]; omega)] at hSj ⊢
        rcases Bool.or_eq_true _ _ ▸ hSj with q | q
        · have : j = i := by simpa using q
          subst this
          rw [ho] at hoj; cases hoj
          rw [hr k' hk']; simp
        · rw [p.closed j oj hoj q k' hk']; simp
      · have := H.grow gr (a' := a.put (some f.1) v) (fun _ _ _ e => by cases e)
        exact this
      · intro s' c x e hne
        have hk := hg s' c x e hne
        have hne' : f.1 ≠ s' := hne f (List.mem_of_getElem? hf)
        unfold Fact at *
        simp only [getD_put_ne hne']
        exact ⟨fun hc => x.mono gr.le (hk.1 hc), hk.2⟩
      · intro j f' hfj hSj
        rw [getD_set (by rw [p.size]; omega)] at hSj
        by_cases hji : j = i
        · subst hji
          rw [hf] at hfj; cases hfj
          unfold Fact
          rw [getD_put_same hlt]
          exact ⟨hv, hun⟩
        · have hSj' : S.getD j false = true := by simpa [hji] using hSj
          have hk := hfacts j f' hfj hSj'
          have hjm : j < m := by rw [← hfl]; exact (List.getElem?_eq_some_iff.1 hfj).1
          obtain ⟨oj, _, hoj, _⟩ := getop j hjm
          have hne' : f.1 ≠ f'.1 := fun e' => D.dst i o ho him j oj hoj hjm hji (by rw [hdst j oj f' hoj hjm hfj, hdst i o f ho him hf, e'])
          unfold Fact at *
          simp only [getD_put_ne hne']
          exact ⟨fun hc => f'.2.2.mono gr.le (hk.1 hc), hk.2⟩)
  have hfil : ∀ (S : Array Bool) (i : Nat), S.size = l.length → i < m → S.getD i false = false → ((List.range m).filter fun j => !(S.setIfInBounds i true).getD j false).length + 1 = ((List.range m).filter fun j => !S.getD j false).length := by
    intro S i hS him hSi
    have hfil : ((List.range m).filter fun j => !(S.setIfInBounds i true).getD j false) = ((List.range m).filter fun j => !S.getD j false).erase i := by
      rw [List.Nodup.erase_eq_filter (List.Nodup.sublist List.filter_sublist List.nodup_range), List.filter_filter]
      refine List.filter_congr fun j _ => ?_
      rw [getD_set (by rw [hS]; omega)]
      by_cases hji : j = i <;> simp [hji]
    have hmem : i ∈ (List.range m).filter fun j => !S.getD j false := List.mem_filter.2 ⟨List.mem_range.2 him, by simp [hSi]⟩
    have hpos := List.length_pos_of_mem hmem
    rw [hfil, List.length_erase_of_mem hmem]
    omega
  intro a w k
  refine wpIn_mono (Q := NoPanic Q) (wpIn_region_any hmix ?_) (fun e a w h => by cases e <;> first | exact h | exact h.elim)
  have key : ∀ (u : Nat) (S : Array Bool) (a : Act) (w : World), PState E g l m fs S a w → (∀ i ∈ late, S.getD i false = true) → ((List.range m).filter fun i => !S.getD i false).length = u →
      wpAnyIn (fz E.rnd) 9 E.P .any l.toArray (NoPanic Q) (u + (l.length - m)) S a w := by
    intro u
    induction u with
    | zero =>
      intro S a w p hla hu
      have hall : ∀ i, i < m → S.getD i false = true := fun i hi => by
        have := List.length_eq_zero_iff.1 hu
        have := List.filter_eq_nil_iff.1 this i (List.mem_range.2 hi)
        simpa using this
      have hSi : ∀ i, S.getD i false = decide (i < m) := fun i => by
        rcases Nat.lt_or_ge i m with q | q
        · rw [hall i q]; simp [q]
        · rw [p.tail i q]; simp; omega
      rw [Nat.zero_add]
      refine tail_anyL D hlm _ m S a w (by omega) (Nat.le_refl _) p.size hSi ?_
      obtain ⟨r, H, hg, hf⟩ := p.at_
      refine hK a w ⟨p.tmps, p.defers, r, { H with slots := ?_ }⟩
      intro s c x e
      rcases look_append e with q | ⟨q1, q2⟩
      · obtain ⟨i, hi, he⟩ := List.getElem_of_mem (List.mem_reverse.1 q)
        exact hf i (s, c, x) (by rw [List.getElem?_eq_getElem hi, he]) (hall i (by omega))
      · exact hg s c x q1 (fun f hf => q2 f (List.mem_reverse.2 hf))
    | succ u ih =>
      intro S a w p hla hu
      rw [show u + 1 + (l.length - m) = (u + (l.length - m)) + 1 from by omega]
      have hex : ∃ i, i < m ∧ S.getD i false = false := by
        have hne : ((List.range m).filter fun i => !S.getD i false) ≠ [] := fun e => by rw [e] at hu; simp at hu
        obtain ⟨i, hi⟩ := List.exists_mem_of_ne_nil _ hne
        obtain ⟨h1, h2⟩ := List.mem_filter.1 hi
        exact ⟨i, List.mem_range.1 h1, by simpa using h2⟩
      obtain ⟨i0, ⟨hi0, hS0⟩, hmin⟩ := least hex
      have hready : i0 ∈ Region.ready .any l.toArray S := by
        have ho : l[i0]? = some (l[i0]'(by omega)) := List.getElem?_eq_getElem _
        refine ready_iff.2 ⟨getD_true_of_false hS0 (by rw [p.size]; omega), _, ho, fun j hj => ?_⟩
        have hlt := D.lt i0 _ ho j hj
        cases hSj : S.getD j false with
        | true => rfl
        | false => have := hmin j ⟨by omega, hSj⟩; omega
      refine ⟨fun e => by rw [e] at hready; simp at hready, fun i hi => ?_⟩
      obtain ⟨h1, o, ho, hr⟩ := ready_iff.1 hi
      obtain ⟨hSi, hilt⟩ := getD_false_of_true h1
      rw [p.size] at hilt
      have him : i < m := by
        rcases Nat.lt_or_ge i m with q | q
        · exact q
        · exfalso
          have := masks_closed (fun k => S.getD k false) l [] 0 rfl (by simp) (by simpa using D.lt) (by
            intro i' o' ho' hSi' j' hj'
            simp only [Nat.zero_add] at hSi'
            exact p.closed i' o' ho' hSi' j' hj') i o ho hr i0 (by simpa using D.tail i q hilt i0 (by omega) (fun hc => by rw [hla _ hc] at hS0; cases hS0))
          rw [hS0] at this; cases this
      unfold wpOpIn
      simp only [List.getElem?_toArray, ho]
      have step := stepP S a w p i o ho him hSi hr (NoPanic Q) (wpAnyIn (fz E.rnd) 9 E.P .any l.toArray (NoPanic Q) (u + (l.length - m)) (S.setIfInBounds i true)) (fun a' w' p' => by
        refine ih _ _ _ p' (fun j hj => ?_) ?_
        · rw [getD_set (by rw [p.size]; omega), hla j hj]; simp
        · have := hfil S i p.size him hSi; omega)
      split
      · rename_i hw
        rw [if_pos hw] at step
        exact step
      · rename_i hw
        rw [if_neg hw] at step
        exact step
  have takeL : ∀ (ls : List Nat) (S : Array Bool) (a : Act) (w : World), lateOk l m ls S = true → PState E g l m fs S a w → (∀ i ∈ late, i ∈ ls ∨ S.getD i false = true) →
      wpAnyIn (fz E.rnd) 9 E.P .any l.toArray (NoPanic Q) (((List.range m).filter fun i => !S.getD i false).length + (l.length - m)) S a w := by
    intro ls
    induction ls with
    | nil => intro S a w _ p hla; exact key _ S a w p (fun i hi => (hla i hi).elim (fun h => by cases h) (fun h => h)) rfl
    | cons i ls ih =>
      intro S a w hl p hla
      have hsel := lateOk_sel hl
      unfold lateOk at hl
      simp only [Bool.and_eq_true] at hl
      obtain ⟨⟨⟨⟨h1, h2⟩, h3⟩, h4⟩, h5⟩ := hl
      have him : i < m := Nat.le_of_ble_eq_true h1
      have ho : l[i]? = some (l[i]'(by omega)) := List.getElem?_eq_getElem _
      rw [ho] at h2
      obtain ⟨d, s, e1, e2, e3⟩ := isMove_spec h2
      have hrd : i ∈ Region.ready .any l.toArray S := by simpa using h4
      obtain ⟨q1, o, ho', hr⟩ := ready_iff.1 hrd
      rw [ho] at ho'
      cases ho'
      obtain ⟨hSi, _⟩ := getD_false_of_true q1
      have hw : Region.wanted (l[i]'(by omega)) (yielded l.toArray a.tmps) = true := by simp [Region.wanted, e3]
      have hrun : ∀ w, (execOp a.eval (l[i]'(by omega))).run E.P w = .ok (.value (a.eval (.tmp s))) w := fun w => by simp [execOp, e2]
      have hy : YieldsFenced E.P l.toArray (l[i]'(by omega)) (a.eval (.tmp s)) a := ⟨.inl ⟨hw, hrun⟩, fun w => by simp [Oper.about, e2]⟩
      have step := stepP S a w p i _ ho him hSi hr (NoPanic Q) (fun a' w' => PState E g l m fs (S.setIfInBounds i true) a' w') (fun a' w' p' => p')
      rw [if_pos hw] at step
      unfold Oper.wpIn at step
      have step := step.2
      rw [Oper.semAt_eq _ _ _ (by rw [e2]; simp), hrun] at step
      simp only [Oper.uponIn] at step
      have hn := hfil S i p.size him hSi
      rw [show ((List.range m).filter fun i => !S.getD i false).length + (l.length - m) = ((List.range m).filter fun j => !(S.setIfInBounds i true).getD j false).length + (l.length - m) + 1 from by omega]
      refine wpAnyIn_take (by rw [hro]; rfl) (by rw [List.getElem?_toArray]; exact ho) hsel h3 h4 (fun c a w h => h.elim) hy ?_
      refine ih _ _ _ h5 step fun j hj => ?_
      rcases hla j hj with h | h
      · rcases List.mem_cons.1 h with rfl | h
        · right; rw [getD_set (by rw [p.size]; omega)]; simp
        · exact .inl h
      · right; rw [getD_set (by rw [p.size]; omega), h]; simp
  obtain ⟨k1, k2, r, H⟩ := k
  have k2 : Marks E { w with drawn := w.drawn + 1 } a.defers := k2.grow H (Grow.same H.ok ((Below.refl _ _).drew))
  have hcount : ((List.range m).filter fun i => !(Array.replicate l.toArray.size false).getD i false).length = m := by
    rw [List.filter_eq_self.2 (fun i hi => ?_)]
    · simp
    · rw [getD_replicate]; rfl
  have hdrew : HoldsAt E { g with sl := [] } r a { w with drawn := w.drawn + 1 } := by
    have hgr : Grow r w r w.drew := Grow.same H.ok ((Below.refl _ _).drew)
    have := H.grow hgr (a' := a) H.slots
    exact { this with slots := fun _ _ _ e => by cases e }
  have fin := takeL late (Array.replicate l.toArray.size false) a { w with drawn := w.drawn + 1 } (by rw [show l.toArray.size = l.length from by simp]; exact hlate) ⟨by simp, fun i _ => getD_replicate _ i, (by intro i o _ hS; rw [getD_replicate] at hS; cases hS), k1, k2, r, hdrew, fun s c x e _ => H.slots s c x e, (by intro i f _ hS; rw [getD_replicate] at hS; cases hS)⟩ (fun i hi => .inl hi)
  rw [hcount, show m + (l.length - m) = l.toArray.size from by simp; omega] at fin
  exact fin
end Go.L
