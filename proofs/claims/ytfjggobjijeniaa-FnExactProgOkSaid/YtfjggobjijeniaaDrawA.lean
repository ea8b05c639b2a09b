import Derived.Test.YtfjggobjijeniaaCal8
/-! Regions that draw their order, with variables made among the reads. -/
namespace Go.L
open Go Go.RowKit

/-- A variable that is made: its operation, its slot, its type, its zeros. -/
structure Al where
  i : Nat
  d : Nat
  T : Nat
  zs : List Value

def anyPtr : A := ⟨fun _ v => ∃ b, v = .pointer (some ⟨b, 0, none⟩), fun _ h => h⟩

def AlStep (E : Env) (o : Oper) (x : Al) : Prop := o.dst = some x.d ∧ Nat.ble (x.d + 1) E.n = true ∧ o.guard = none ∧ o.op = .alloc x.T ∧ TZ E.P x.T x.zs

def ChainA (E : Env) (ops : Array Oper) (own : OC) : Nat → List Oper → List (Nat × Bool × A) → List Al → (List (Nat × Bool × A) → List Al → Prop) → Prop
  | _, [], av, al, K => K av al
  | i, o :: rest, av, al, K => (∃ f, Step1 E ops own av o f ∧ ChainA E ops own (i + 1) rest (f :: av) al K) ∨
      ∃ d T zs, AlStep E o ⟨i, d, T, zs⟩ ∧ ChainA E ops own (i + 1) rest ((d, true, anyPtr) :: av) (⟨i, d, T, zs⟩ :: al) K

theorem ChainA_nil {E : Env} {ops : Array Oper} {own : OC} {i : Nat} {av : List (Nat × Bool × A)} {al : List Al} {K : List (Nat × Bool × A) → List Al → Prop} (h : K av al) : ChainA E ops own i [] av al K := h
theorem ChainA_cons {E : Env} {ops : Array Oper} {own : OC} {i : Nat} {o : Oper} {rest : List Oper} {av : List (Nat × Bool × A)} {al : List Al} {K : List (Nat × Bool × A) → List Al → Prop} {f : Nat × Bool × A} (h : Step1 E ops own av o f) (k : ChainA E ops own (i + 1) rest (f :: av) al K) :
    ChainA E ops own i (o :: rest) av al K := .inl ⟨f, h, k⟩
theorem ChainA_al {E : Env} {ops : Array Oper} {own : OC} {i d T : Nat} {zs : List Value} {ty : TypeId} {pos : String} {aft : Array Edge} {rest : List Oper} {av : List (Nat × Bool × A)} {al : List Al} {K : List (Nat × Bool × A) → List Al → Prop} (hz : TZ E.P T zs) (hd : Nat.ble (d + 1) E.n = true) (k : ChainA E ops own (i + 1) rest ((d, true, anyPtr) :: av) (⟨i, d, T, zs⟩ :: al) K) :
    ChainA E ops own i (⟨some d, .alloc T, ty, pos, aft, none⟩ :: rest) av al K := .inr ⟨d, T, zs, ⟨rfl, hd, rfl, rfl, hz⟩, k⟩

/-- The blocks come to be known. -/
def AlK : List Al → Ctx → (Ctx → Prop) → Prop
  | [], g, K => K g
  | x :: al, g, K => ∀ b, AlK al { g with sl := (x.d, true, A.val (.pointer (some ⟨b, 0, none⟩))) :: g.sl, own := (b, x.T, x.zs.map A.val) :: g.own } K

theorem AlK_nil {g : Ctx} {K : Ctx → Prop} (h : K g) : AlK [] g K := h
theorem AlK_cons {x : Al} {al : List Al} {g : Ctx} {K : Ctx → Prop} (h : ∀ b, AlK al { g with sl := (x.d, true, A.val (.pointer (some ⟨b, 0, none⟩))) :: g.sl, own := (b, x.T, x.zs.map A.val) :: g.own } K) : AlK (x :: al) g K := h
theorem ChainA.split {E : Env} {ops : Array Oper} {own : OC} : ∀ {l : List Oper} {k : Nat} {av : List (Nat × Bool × A)} {al : List Al} {K : List (Nat × Bool × A) → List Al → Prop}, ChainA E ops own k l av al K →
    ∃ (fs : List (Nat × Bool × A)) (as : List Al), fs.length = l.length ∧ K (fs.reverse ++ av) (as ++ al) ∧ (∀ (i : Nat) o f, l[i]? = some o → fs[i]? = some f → Step1 E ops own ((fs.take i).reverse ++ av) o f ∨ ∃ x ∈ as, x.i = k + i ∧ AlStep E o x ∧ f = (x.d, true, anyPtr)) ∧
      (∀ x ∈ as, k ≤ x.i ∧ x.i < k + l.length) ∧ (∀ x ∈ as, ∃ o, l[x.i - k]? = some o ∧ AlStep E o x ∧ fs[x.i - k]? = some (x.d, true, anyPtr)) ∧ (as.map (·.i)).Nodup
  | [], k, av, al, K, h => ⟨[], [], rfl, h, by simp, by simp, by simp, by simp⟩
  | o :: l, k, av, al, K, h => by
    rcases h with ⟨f, h1, h2⟩ | ⟨d, T, zs, h1, h2⟩
    · obtain ⟨fs, as, hl, hK, hs, hr, hi, hn⟩ := ChainA.split h2
      refine ⟨f :: fs, as, by simp [hl], by simpa using hK, ?_, fun x hx => ?_, fun x hx => ?_, hn⟩
      · intro i o' f' ho hf
        cases i with
        | zero => simp at ho hf; subst ho; subst hf; exact .inl (by simpa using h1)
        | succ i =>
          rcases hs i o' f' (by simpa using ho) (by simpa using hf) with q | ⟨x, q1, q2, q3⟩
          · exact .inl (by simpa using q)
          · exact .inr ⟨x, q1, by omega, q3⟩
      · have := hr x hx; simp only [List.length_cons]; omega
      · obtain ⟨o', q1, q2, q3⟩ := hi x hx
        have := hr x hx
        exact ⟨o', by rw [show x.i - k = (x.i - (k + 1)) + 1 from by omega]; simpa using q1, q2, by rw [show x.i - k = (x.i - (k + 1)) + 1 from by omega]; simpa using q3⟩
    · obtain ⟨fs, as, hl, hK, hs, hr, hi, hn⟩ := ChainA.split h2
      refine ⟨(d, true, anyPtr) :: fs, as ++ [⟨k, d, T, zs⟩], by simp [hl], by simpa using hK, ?_, fun x hx => ?_, fun x hx => ?_, ?_⟩
      · intro i o' f' ho hf
        cases i with
        | zero => simp at ho hf; subst ho; subst hf; exact .inr ⟨⟨k, d, T, zs⟩, by simp, rfl, h1, rfl⟩
        | succ i =>
          rcases hs i o' f' (by simpa using ho) (by simpa using hf) with q | ⟨x, q1, q2, q3⟩
          · exact .inl (by simpa using q)
          · exact .inr ⟨x, by simp [q1], by omega, q3⟩
      · rcases List.mem_append.1 hx with hx | hx
        · have := hr x hx; simp only [List.length_cons]; omega
        · simp at hx; subst hx; simp
      · rcases List.mem_append.1 hx with hx | hx
        · obtain ⟨o', q1, q2, q3⟩ := hi x hx
          have := hr x hx
          exact ⟨o', by rw [show x.i - k = (x.i - (k + 1)) + 1 from by omega]; simpa using q1, q2, by rw [show x.i - k = (x.i - (k + 1)) + 1 from by omega]; simpa using q3⟩
        · simp at hx; subst hx; exact ⟨o, by simp, h1, by simp⟩
      · rw [List.map_append, List.nodup_append]
        refine ⟨hn, by simp, fun a ha b hb e => ?_⟩
        obtain ⟨x, hx, rfl⟩ := List.mem_map.1 ha
        have := hr x hx
        simp at hb; omega

theorem AlK.get {K : Ctx → Prop} : ∀ {al : List Al} {g : Ctx}, AlK al g K → ∀ blk : Nat → Nat, ∃ sl own, K { g with sl := sl, own := own } ∧ sl = (al.map fun x => (x.d, true, A.val (.pointer (some ⟨blk x.i, 0, none⟩)))).reverse ++ g.sl ∧ own = (al.map fun x => (blk x.i, x.T, x.zs.map A.val)).reverse ++ g.own
  | [], g, h, blk => ⟨_, _, h, rfl, rfl⟩
  | x :: al, g, h, blk => by
    obtain ⟨sl, own, q1, q2, q3⟩ := AlK.get (h (blk x.i)) blk
    exact ⟨sl, own, q1, by rw [q2]; simp, by rw [q3]; simp⟩

/-- The variables that have been made. -/
def ownAl (as : List Al) (S : Array Bool) (blk : Nat → Nat) : Own := (as.filter fun x => S.getD x.i false).map fun x => (blk x.i, x.T, x.zs.map A.val)

structure PStateA (E : Env) (g : Ctx) (l : List Oper) (as : List Al) (m : Nat) (fs : List (Nat × Bool × A)) (S : Array Bool) (a : Act) (w : World) : Prop where
  size : S.size = l.length
  tail : ∀ i, m ≤ i → S.getD i false = false
  closed : ∀ (i : Nat) o, l[i]? = some o → S.getD i false = true → ∀ j ∈ edgesOf o, S.getD j false = true
  tmps : a.tmps.size = E.n
  defers : Marks E w a.defers
  at_ : ∃ (r : Rho) (blk : Nat → Nat), HoldsAt E { g with sl := [], own := ownAl as S blk ++ g.own } r a w ∧ (∀ x ∈ as, S.getD x.i false = true → a.tmps.getD x.d undef = .pointer (some ⟨blk x.i, 0, none⟩)) ∧ (∀ s c x, look g.sl s = some (c, x) → (∀ f ∈ fs, f.1 ≠ s) → Fact r a (s, c, x)) ∧ (∀ (i : Nat) f, fs[i]? = some f → S.getD i false = true → Fact r a f)

theorem W_drawA {E : Env} {g : Ctx} {Q : Exit → Act → World → Prop} {id : Nat} {l : List Oper} (m : Nat) (hmix : E.P.follows .mixedOrders = true) (hm : Nat.ble m l.length = true) (hok : drawOk l m = true)
    (h : ChainA E l.toArray g.oc 0 (l.take m) g.sl [] fun av al => AlK al { g with sl := av } fun g' => WL E l.toArray (l.drop m) g' Q) : W E (.region id l.toArray true) g Q := by
  have hm := Nat.le_of_ble_eq_true hm
  have D := drawOk_spec hok
  obtain ⟨fs, as, hfl, hK, hst, hri, hai, hnd⟩ := h.split
  rw [List.append_nil] at hK
  have hfl : fs.length = m := by rw [hfl]; simp [hm]
  have hstep : ∀ (i : Nat) o f, l[i]? = some o → i < m → fs[i]? = some f → Step1 E l.toArray g.oc ((fs.take i).reverse ++ g.sl) o f ∨ ∃ x ∈ as, x.i = 0 + i ∧ AlStep E o x ∧ f = (x.d, true, anyPtr) := fun i o f ho hi hf => hst i o f (by simp [hi, ho]) hf
  have hdst : ∀ (i : Nat) o f, l[i]? = some o → i < m → fs[i]? = some f → o.dst = some f.1 := fun i o f ho hi hf => (hstep i o f ho hi hf).elim (fun q => q.1) fun ⟨x, _, _, q, e⟩ => by rw [e]; exact q.1
  have getop : ∀ i, i < m → ∃ o f, l[i]? = some o ∧ fs[i]? = some f := fun i hi =>
    ⟨l[i]'(by omega), fs[i]'(by omega), List.getElem?_eq_getElem _, List.getElem?_eq_getElem _⟩
  intro a w k
  refine wpIn_region_any hmix ?_
  have key : ∀ (u : Nat) (S : Array Bool) (a : Act) (w : World), PStateA E g l as m fs S a w → ((List.range m).filter fun i => !S.getD i false).length = u →
      wpAnyIn (fz E.rnd) 9 E.P .any l.toArray Q (u + (l.length - m)) S a w := by
    intro u
    induction u with
    | zero =>
      intro S a w p hu
      have hall : ∀ i, i < m → S.getD i false = true := fun i hi => by
        have := List.length_eq_zero_iff.1 hu
        have := List.filter_eq_nil_iff.1 this i (List.mem_range.2 hi)
        simpa using this
      have hSi : ∀ i, S.getD i false = decide (i < m) := fun i => by
        rcases Nat.lt_or_ge i m with q | q
        · rw [hall i q]; simp [q]
        · rw [p.tail i q]; simp; omega
      rw [Nat.zero_add]
      refine tail_any D _ m S a w (by omega) (Nat.le_refl _) p.size hSi ?_
      obtain ⟨r, blk, H, hbk, hg, hf⟩ := p.at_
      have hasS : ∀ x ∈ as, S.getD x.i false = true := fun x hx => by have := hri x hx; simp [hm] at this; exact hall _ (by omega)
      have hfil : ownAl as S blk = as.map fun x => (blk x.i, x.T, x.zs.map A.val) := by
        unfold ownAl; rw [List.filter_eq_self.2 hasS]
      rw [hfil] at H
      have H1 := H.reown (own' := (as.map fun x => (blk x.i, x.T, x.zs.map A.val)).reverse ++ g.own) (fun x hx => by simpa using hx) (by
        have := H.nodup
        rw [List.map_append] at this ⊢
        rw [List.nodup_append] at this ⊢
        refine ⟨?_, this.2.1, fun a ha => this.2.2 a (by simpa using ha)⟩
        exact (List.Perm.nodup_iff ((List.reverse_perm _).map _)).2 this.1)
      obtain ⟨sl', own', q1, e1, e2⟩ := hK.get blk
      subst e1; subst e2
      refine q1 a w ⟨p.tmps, p.defers, r, { H1 with slots := ?_ }⟩
      intro s c x e
      rcases look_append e with q | ⟨e, _⟩
      · obtain ⟨y, hy, ey⟩ := List.mem_map.1 (List.mem_reverse.1 q)
        cases ey
        exact ⟨fun _ => hbk y hy (hasS y hy), fun k => by cases k⟩
      rcases look_append e with q | ⟨q1, q2⟩
      · obtain ⟨i, hi, he⟩ := List.getElem_of_mem (List.mem_reverse.1 q)
        exact hf i (s, c, x) (by rw [List.getElem?_eq_getElem hi, he]) (hall i (by omega))
      · exact hg s c x q1 (fun f hf => q2 f (List.mem_reverse.2 hf))
    | succ u ih =>
      intro S a w p hu
      rw [show u + 1 + (l.length - m) = (u + (l.length - m)) + 1 from by omega]
      have hex : ∃ i, i < m ∧ S.getD i false = false := by
        have hne : ((List.range m).filter fun i => !S.getD i false) ≠ [] := fun e => by rw [e] at hu; simp at hu
        obtain ⟨i, hi⟩ := List.exists_mem_of_ne_nil _ hne
        obtain ⟨h1, h2⟩ := List.mem_filter.1 hi
        exact ⟨i, List.mem_range.1 h1, by simpa using h2⟩
      obtain ⟨i0, ⟨hi0, hS0⟩, hmin⟩ := least hex
      have hready : i0 ∈ Region.ready .any l.toArray S := by
        have ho : l[i0]? = some (l[i0]'(by omega)) := List.getElem?_eq_getElem _
        refine ready_iff.2 ⟨getD_true_of_false hS0 (by rw [p.size]; omega), _, ho, fun j hj => ?_⟩
        have hlt := D.lt i0 _ ho j hj
        cases hSj : S.getD j false with
        | true => rfl
        | false => have := hmin j ⟨by omega, hSj⟩; omega
      refine ⟨fun e => by rw [e] at hready; simp at hready, fun i hi => ?_⟩
      obtain ⟨h1, o, ho, hr⟩ := ready_iff.1 hi
      obtain ⟨hSi, hilt⟩ := getD_false_of_true h1
      rw [p.size] at hilt
      have him : i < m := by
        rcases Nat.lt_or_ge i m with q | q
        · exact q
        · exfalso
          have := masks_closed (fun k => S.getD k false) l [] 0 rfl (by simp) (by simpa using D.lt) (by
            intro i' o' ho' hSi' j' hj'
            simp only [Nat.zero_add] at hSi'
            exact p.closed i' o' ho' hSi' j' hj') i o ho hr i0 (by simpa using D.tail i q hilt i0 (by omega))
          rw [hS0] at this; cases this
      obtain ⟨_, f, _, hf⟩ := getop i him
      have hs := hstep i o f ho him hf
      obtain ⟨r, blk, H, hbk, hg, hfacts⟩ := p.at_
      have H0 : HoldsAt E { g with sl := [] } r a w := H.reown (own' := g.own) (fun x hx => by simp [hx]) (by have := H.nodup; rw [List.map_append] at this; exact (List.nodup_append.1 this).2.1)
      have hsl : ∀ s ∈ o.looksAt l.toArray, ∀ c x, look ((fs.take i).reverse ++ g.sl) s = some (c, x) → (c = true → x.p r (a.tmps.getD s undef)) ∧ (c = false → a.tmps.getD s undef = undef) := by
        intro s hsm c x e
        rw [looks_eq] at hsm
        rcases look_append e with q | ⟨q1, q2⟩
        · obtain ⟨j, hj, he⟩ := List.getElem_of_mem (List.mem_reverse.1 q)
          have hj' : j < i := by simp at hj; omega
          have hfj : fs[j]? = some (s, c, x) := by
            rw [← he, List.getElem_take]
            exact List.getElem?_eq_getElem _
          obtain ⟨oj, fj, hoj, hfj'⟩ := getop j (by omega)
          rw [hfj] at hfj'
          cases hfj'
          have hd := hdst j oj _ hoj (by omega) hfj
          have hk := D.look i o ho him s hsm j oj hoj (by omega) hd
          exact hfacts j (s, c, x) hfj (hr j hk.2)
        · refine hg s c x q1 fun f' hf' e' => ?_
          obtain ⟨j, hj, he⟩ := List.getElem_of_mem hf'
          have hfj : fs[j]? = some f' := by rw [List.getElem?_eq_getElem hj, he]
          obtain ⟨oj, fj, hoj, hfj'⟩ := getop j (by omega)
          have hd := hdst j oj f' hoj (by omega) hfj
          rw [e'] at hd
          have hk := D.look i o ho him s hsm j oj hoj (by omega) hd
          refine q2 f' (List.mem_reverse.2 ?_) e'
          exact List.mem_of_getElem? (i := j) (by rw [List.getElem?_take]; simp [hk.1, hfj])
      have hfl' : f.1 < E.n ∧ (f.2.1 = true ∨ f.2.1 = false) := by
        refine ⟨?_, by cases f.2.1 <;> simp⟩
        rcases hs with q | ⟨x, _, _, q, e⟩
        · exact Nat.le_of_ble_eq_true q.2.1
        · rw [e]; exact Nat.le_of_ble_eq_true q.2.1
      have adv : ∀ v s w' blk', Marks E w' a.defers → HoldsAt E { g with sl := [], own := ownAl as (S.setIfInBounds i true) blk' ++ g.own } s (a.put (some f.1) v) w' → r.le s → (f.2.1 = true → f.2.2.p s v) → (f.2.1 = false → v = undef) →
          (∀ x ∈ as, (S.setIfInBounds i true).getD x.i false = true → (a.put (some f.1) v).tmps.getD x.d undef = .pointer (some ⟨blk' x.i, 0, none⟩)) → wpAnyIn (fz E.rnd) 9 E.P .any l.toArray Q (u + (l.length - m)) (S.setIfInBounds i true) (a.put (some f.1) v) w' := by
        intro v s w' blk' hmk H' hle hv hun hbk'
        refine ih _ _ _ ?_ ?_
        · have hlt : f.1 < a.tmps.size := by rw [p.tmps]; exact hfl'.1
          refine ⟨by simpa using p.size, ?_, ?_, by rw [size_put]; exact p.tmps, by rw [defers_put]; exact hmk, s, blk', H', hbk', ?_, ?_⟩
          · intro j hj
            rw [getD_set (by rw [p.size]; omega), p.tail j hj]
            simp; omega
          · intro j oj hoj hSj k' hk'
            rw [getD_set (by rw [p.size]; omega)] at hSj ⊢
            rcases Bool.or_eq_true _ _ ▸ hSj with q | q
            · have : j = i := by simpa using q
              subst this
              rw [ho] at hoj; cases hoj
              rw [hr k' hk']; simp
            · rw [p.closed j oj hoj q k' hk']; simp
          · intro s' c x e hne
            have hk := hg s' c x e hne
            have hne' : f.1 ≠ s' := hne f (List.mem_of_getElem? hf)
            unfold Fact at *
            simp only [getD_put_ne hne']
            exact ⟨fun hc => x.mono hle (hk.1 hc), hk.2⟩
          · intro j f' hfj hSj
            rw [getD_set (by rw [p.size]; omega)] at hSj
            by_cases hji : j = i
            · subst hji
              rw [hf] at hfj; cases hfj
              unfold Fact
              rw [getD_put_same hlt]
              exact ⟨hv, hun⟩
            · have hSj' : S.getD j false = true := by simpa [hji] using hSj
              have hk := hfacts j f' hfj hSj'
              have hjm : j < m := by rw [← hfl]; exact (List.getElem?_eq_some_iff.1 hfj).1
              obtain ⟨oj, _, hoj, _⟩ := getop j hjm
              have hne' : f.1 ≠ f'.1 := fun e' => D.dst i o ho him j oj hoj hjm hji (by rw [hdst j oj f' hoj hjm hfj, hdst i o f ho him hf, e'])
              unfold Fact at *
              simp only [getD_put_ne hne']
              exact ⟨fun hc => f'.2.2.mono hle (hk.1 hc), hk.2⟩
        · have hfil : ((List.range m).filter fun j => !(S.setIfInBounds i true).getD j false) = ((List.range m).filter fun j => !S.getD j false).erase i := by
            rw [List.Nodup.erase_eq_filter (List.Nodup.sublist List.filter_sublist List.nodup_range), List.filter_filter]
            refine List.filter_congr fun j _ => ?_
            rw [getD_set (by rw [p.size]; omega)]
            by_cases hji : j = i <;> simp [hji]
          rw [hfil, List.length_erase_of_mem (List.mem_filter.2 ⟨List.mem_range.2 him, by simp [hSi]⟩), hu]
          rfl
      have hfd : ∀ x ∈ as, x.i ≠ i → f.1 ≠ x.d := fun x hx hne e' => by
        obtain ⟨o', q1, q2, q3⟩ := hai x hx
        have hxi := hri x hx
        simp [hm] at hxi
        rw [Nat.sub_zero, List.getElem?_take, if_pos hxi] at q1
        exact D.dst i o ho him x.i o' q1 hxi hne (by rw [hdst i o f ho him hf, q2.1, e'])
      unfold wpOpIn
      simp only [List.getElem?_toArray, ho]
      by_cases hx : ∃ x ∈ as, x.i = i
      · obtain ⟨x, hx, hxi⟩ := hx
        obtain ⟨o', q1, q2, q3⟩ := hai x hx
        rw [Nat.sub_zero, hxi, List.getElem?_take, if_pos him, ho] at q1
        cases q1
        rw [Nat.sub_zero, hxi, hf] at q3
        cases q3
        obtain ⟨a1, a2, a3, a4, a5⟩ := q2
        obtain ⟨z, hzc, hzr⟩ := a5.run
        have hw : Region.wanted o (yielded l.toArray a.tmps) = true := by simp [Region.wanted, a3]
        rw [if_pos hw]
        have hrun : (execOp a.eval o).run E.P w = .ok (.value (.pointer (some ⟨w.heap.size, 0, none⟩))) (w.alloc (.cells z.cells x.T)) := by
          simp [execOp, a4, Instr.alloc, hzr, run_newVar]
        unfold Oper.wpIn
        refine ⟨fun f _ => trivial, ?_⟩
        rw [Oper.semAt_eq _ _ _ (by rw [a4]; simp), hrun]
        simp only [Oper.uponIn, a1]
        have gr : Grow r w r (w.alloc (.cells z.cells x.T)) := Grow.same H.ok ((Below.refl _ _).alloc (Nat.le_refl _) _)
        have H' := H.allocOwn z.cells x.T (cells := x.zs.map A.val) (by rw [hzc]; exact All2.vals x.zs)
        have asnd : as.Nodup := List.Pairwise.of_map _ (fun a b h e => h (by rw [e])) hnd
        have same : ∀ y ∈ as, y.i = i → y = x := fun y hy e => by
          obtain ⟨j1, h1, e1⟩ := List.getElem_of_mem hy
          obtain ⟨j2, h2, e2⟩ := List.getElem_of_mem hx
          have : j1 = j2 := (List.getElem?_inj (by simpa using h1) hnd).1 (by rw [List.getElem?_map, List.getElem?_map, List.getElem?_eq_getElem h1, List.getElem?_eq_getElem h2, e1, e2]; simp [e, hxi])
          subst this; rw [← e1, e2]
        let blk' : Nat → Nat := fun j => if j = i then w.heap.size else blk j
        have hperm : (ownAl as (S.setIfInBounds i true) blk').Perm ((w.heap.size, x.T, x.zs.map A.val) :: ownAl as S blk) := by
          have p1 : (as.filter fun y => (S.setIfInBounds i true).getD y.i false).Perm (x :: as.filter fun y => S.getD y.i false) := by
            refine (List.perm_ext_iff_of_nodup (asnd.sublist List.filter_sublist) ?_).2 fun y => ?_
            · rw [List.nodup_cons]
              exact ⟨fun hm => (by have := (List.mem_filter.1 hm).2; rw [hxi, hSi] at this; cases this), asnd.sublist List.filter_sublist⟩
            · rw [List.mem_filter, List.mem_cons, List.mem_filter, getD_set (by rw [p.size]; omega)]
              constructor
              · intro ⟨h1, h2⟩
                by_cases hyi : y.i = i
                · exact .inl (same y h1 hyi)
                · exact .inr ⟨h1, by simpa [hyi] using h2⟩
              · rintro (rfl | ⟨h1, h2⟩)
                · exact ⟨hx, by simp [hxi]⟩
                · exact ⟨h1, by simp only [h2, Bool.or_true]⟩
          have p2 := p1.map fun y => (blk' y.i, y.T, y.zs.map A.val)
          unfold ownAl
          refine p2.trans (List.Perm.of_eq ?_)
          rw [List.map_cons]
          congr 1
          · simp [blk', hxi]
          · refine List.map_congr_left fun y hy => ?_
            have hyi : y.i ≠ i := fun e => by have := (List.mem_filter.1 hy).2; rw [e, hSi] at this; cases this
            simp [blk', hyi]
        have H2 := H'.reown (own' := ownAl as (S.setIfInBounds i true) blk' ++ g.own) (fun y hy => by
          rcases List.mem_append.1 hy with hy | hy
          · rcases List.mem_cons.1 (hperm.mem_iff.1 hy) with h | h <;> simp [h]
          · simp [hy]) (by
          have hn := H'.nodup
          have := (hperm.append_right g.own).map (·.1)
          exact (this.nodup_iff).2 (by simpa using hn))
        refine adv _ r _ blk' (p.defers.grow H gr) { H2 with slots := fun _ _ _ e => by cases e } r.le_refl (fun _ => ⟨_, rfl⟩) (fun k => by cases k) fun y hy hSy => ?_
        have hlt : x.d < a.tmps.size := by rw [p.tmps]; exact Nat.le_of_ble_eq_true a2
        by_cases hyi : y.i = i
        · rw [same y hy hyi]
          show (a.put (some x.d) _).tmps.getD x.d undef = _
          rw [getD_put_same hlt]
          simp [blk', hxi]
        · rw [getD_put_ne (hfd y hy hyi)]
          rw [getD_set (by rw [p.size]; omega)] at hSy
          rw [hbk y hy (by simpa [hyi] using hSy)]
          simp [blk', hyi]
      · have hs : Step1 E l.toArray g.oc ((fs.take i).reverse ++ g.sl) o f := hs.elim (fun q => q) fun ⟨x, h1, h2, _⟩ => absurd ⟨x, h1, by omega⟩ hx
        have hown : ownAl as (S.setIfInBounds i true) blk = ownAl as S blk := by
          unfold ownAl
          congr 1
          refine List.filter_congr fun y hy => ?_
          rw [getD_set (by rw [p.size]; omega)]
          simp [show y.i ≠ i from fun e => hx ⟨y, hy, e⟩]
        have step := step_sem (Q := Q) hs H.ok H0.oc p.tmps hsl (K := wpAnyIn (fz E.rnd) 9 E.P .any l.toArray Q (u + (l.length - m)) (S.setIfInBounds i true)) (fun v s w' gr hv hun => by
          refine adv v s w' blk (p.defers.grow H gr) (by rw [hown]; exact H.grow gr (fun _ _ _ e => by cases e)) gr.le hv hun fun y hy hSy => ?_
          have hyi : y.i ≠ i := fun e => hx ⟨y, hy, e⟩
          rw [getD_put_ne (hfd y hy hyi)]
          rw [getD_set (by rw [p.size]; omega)] at hSy
          exact hbk y hy (by simpa [hyi] using hSy))
        split
        · rename_i hw
          rw [if_pos hw] at step
          exact step
        · rename_i hw
          rw [if_neg hw] at step
          exact step
  obtain ⟨k1, k2, r, H⟩ := k
  have k2 : Marks E { w with drawn := w.drawn + 1 } a.defers := k2.grow H (Grow.same H.ok ((Below.refl _ _).drew))
  have hcount : ((List.range m).filter fun i => !(Array.replicate l.toArray.size false).getD i false).length = m := by
    rw [List.filter_eq_self.2 (fun i hi => ?_)]
    · simp
    · rw [getD_replicate]; rfl
  have hdrew : HoldsAt E { g with sl := [] } r a { w with drawn := w.drawn + 1 } := by
    have hgr : Grow r w r w.drew := Grow.same H.ok ((Below.refl _ _).drew)
    have := H.grow hgr (a' := a) H.slots
    exact { this with slots := fun _ _ _ e => by cases e }
  have fin := key m (Array.replicate l.toArray.size false) a { w with drawn := w.drawn + 1 } ⟨by simp, fun i _ => getD_replicate _ i, (by intro i o _ hS; rw [getD_replicate] at hS; cases hS), k1, k2, r, fun _ => 0, (by rw [show ownAl as (Array.replicate l.toArray.size false) (fun _ => 0) = [] from by unfold ownAl; rw [List.filter_eq_nil_iff.2 (fun x _ => by rw [getD_replicate]; simp)]; rfl]; exact hdrew), (by intro x _ hS; rw [getD_replicate] at hS; cases hS), fun s c x e _ => H.slots s c x e, (by intro i f _ hS; rw [getD_replicate] at hS; cases hS)⟩ hcount
  rw [show m + (l.length - m) = l.toArray.size from by simp; omega] at fin
  exact fin
end Go.L
