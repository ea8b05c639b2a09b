import Derived.Test.YtfjggobjijeniaaStep
/-! Regions that draw their order: a prefix whose operations only read, compute and make new memory, in any order; behind it a tail in a forced order. -/
namespace Go.L
open Go Go.RowKit

def edgesOf (o : Oper) : List Nat := (o.after.toList.filter fun e => Region.binds .any e).map (·.on)

/-- Predecessors of each operation, direct or not, as bits. -/
def maskOf (ms : List Nat) (l : List Nat) : Nat := l.foldl (fun s j => s ||| 2 ^ j ||| ms.getD j 0) 0
def masksFrom : List Oper → List Nat → List Nat
  | [], ms => ms
  | o :: l, ms => masksFrom l (ms ++ [maskOf ms (edgesOf o)])
def allBits (m : Nat) (k : Nat) : Bool := (List.range k).all fun j => m.testBit j

/-- The slots that an operation looks at. -/
def looks (l : List Oper) (o : Oper) : List Nat :=
  (o.op.operands.toList.filterMap fun | .tmp t => some t | _ => none) ++ (match o.guard with | some (j, _) => ((l[j]?).bind (·.dst)).toList | none => [])
theorem looks_eq (l : List Oper) (o : Oper) : o.looksAt l.toArray = looks l o := by
  unfold Oper.looksAt looks
  congr 1
  cases o.guard with
  | none => rfl
  | some x => simp

/-- The prefix of m operations may go in any order, the rest is forced. -/
def drawOk (l : List Oper) (m : Nat) : Bool :=
  let ds := (l.take m).map (·.dst)
  let ms := masksFrom l []
  (l.zipIdx.all fun (o, i) => (edgesOf o).all fun j => Nat.blt j i) &&
  (l.zipIdx.all fun (o, i) => if Nat.ble m i then allBits (ms.getD i 0) i else
    (o.dst.isSome && ((ds.zipIdx.all fun (d, j) => j == i || d != o.dst) &&
      ((looks l o).all fun s => ds.zipIdx.all fun (d, j) => d != some s || (Nat.blt j i && (edgesOf o).contains j)))))

def Chain (E : Env) (ops : Array Oper) (own : OC) : List Oper → List (Nat × Bool × A) → (List (Nat × Bool × A) → Prop) → Prop
  | [], av, K => K av
  | o :: rest, av, K => ∃ f, Step1 E ops own av o f ∧ Chain E ops own rest (f :: av) K

theorem Chain.split {E : Env} {ops : Array Oper} {own : OC} : ∀ {l : List Oper} {av : List (Nat × Bool × A)} {K : List (Nat × Bool × A) → Prop}, Chain E ops own l av K →
    ∃ fs : List (Nat × Bool × A), fs.length = l.length ∧ K (fs.reverse ++ av) ∧ ∀ (i : Nat) o f, l[i]? = some o → fs[i]? = some f → Step1 E ops own ((fs.take i).reverse ++ av) o f
  | [], av, K, h => ⟨[], rfl, h, by simp⟩
  | o :: l, av, K, ⟨f, h1, h2⟩ => by
    obtain ⟨fs, hl, hK, hs⟩ := Chain.split h2
    refine ⟨f :: fs, by simp [hl], by simpa using hK, ?_⟩
    intro i o' f' ho hf
    cases i with
    | zero => simp at ho hf; subst ho; subst hf; simpa using h1
    | succ i =>
      have := hs i o' f' (by simpa using ho) (by simpa using hf)
      simpa using this

theorem testBit_mask {ms : List Nat} {j : Nat} : ∀ (l : List Nat) (s : Nat), (l.foldl (fun s j => s ||| 2 ^ j ||| ms.getD j 0) s).testBit j = true →
    s.testBit j = true ∨ ∃ k ∈ l, k = j ∨ (ms.getD k 0).testBit j = true
  | [], s, h => .inl h
  | k :: l, s, h => by
    rcases testBit_mask l _ h with q | ⟨k', hk', q⟩
    · rw [Nat.testBit_or, Nat.testBit_or, Bool.or_eq_true, Bool.or_eq_true, Nat.testBit_two_pow] at q
      rcases q with (q | q) | q
      · exact .inl q
      · exact .inr ⟨k, by simp, .inl (by simpa using q)⟩
      · exact .inr ⟨k, by simp, .inr q⟩
    · exact .inr ⟨k', by simp [hk'], q⟩

theorem masksFrom_length : ∀ (l : List Oper) (ms : List Nat), (masksFrom l ms).length = ms.length + l.length
  | [], ms => by simp [masksFrom]
  | o :: l, ms => by simp [masksFrom, masksFrom_length l]; omega
theorem masksFrom_old : ∀ (l : List Oper) (ms : List Nat) (i : Nat), i < ms.length → (masksFrom l ms).getD i 0 = ms.getD i 0
  | [], ms, i, _ => rfl
  | o :: l, ms, i, h => by
    rw [masksFrom, masksFrom_old l _ i (by simp; omega)]
    simp [List.getElem?_append_left h]

/-- A downward closed set holds all predecessors of each of its members, and of what is ready. -/
theorem masks_closed (S : Nat → Bool) : ∀ (l : List Oper) (ms : List Nat) (k : Nat), ms.length = k →
    (∀ i j, i < k → S i = true → (ms.getD i 0).testBit j = true → S j = true) →
    (∀ (i : Nat) o, l[i]? = some o → ∀ j ∈ edgesOf o, j < k + i) →
    (∀ (i : Nat) o, l[i]? = some o → S (k + i) = true → ∀ j ∈ edgesOf o, S j = true) →
    (∀ (i : Nat) o, l[i]? = some o → (∀ j ∈ edgesOf o, S j = true) → ∀ j, ((masksFrom l ms).getD (k + i) 0).testBit j = true → S j = true)
  | [], ms, k, hk, h0, hlt, hcl, i, o, ho => by simp at ho
  | o1 :: l, ms, k, hk, h0, hlt, hcl, i, o, ho => by
    intro hr j hj
    have hnew : ∀ o, o = o1 → (∀ j ∈ edgesOf o, S j = true) → ∀ j, (maskOf ms (edgesOf o1)).testBit j = true → S j = true := by
      intro o ho hr j hj
      subst ho
      rcases testBit_mask _ _ hj with q | ⟨k', hk', q⟩
      · simp at q
      · rcases q with rfl | q
        · exact hr _ hk'
        · exact h0 k' j (by have := hlt 0 o (by simp) k' hk'; omega) (hr _ hk') q
    have h0' : ∀ i j, i < k + 1 → S i = true → ((ms ++ [maskOf ms (edgesOf o1)]).getD i 0).testBit j = true → S j = true := by
      intro i j hi hS hb
      by_cases hik : i < k
      · rw [List.getD_eq_getElem?_getD, List.getElem?_append_left (by omega), ← List.getD_eq_getElem?_getD] at hb
        exact h0 i j hik hS hb
      · have : i = k := by omega
        subst this
        rw [List.getD_eq_getElem?_getD, List.getElem?_append_right (by omega)] at hb
        simp [hk] at hb
        exact hnew o1 rfl (hcl 0 o1 (by simp) (by simpa using hS)) j hb
    cases i with
    | zero =>
      simp at ho
      subst ho
      rw [masksFrom, masksFrom_old _ _ _ (by simp; omega)] at hj
      rw [List.getD_eq_getElem?_getD, List.getElem?_append_right (by omega)] at hj
      simp [hk] at hj
      exact hnew o1 rfl hr j hj
    | succ i =>
      have := masks_closed S l (ms ++ [maskOf ms (edgesOf o1)]) (k + 1) (by simp [hk]) h0'
        (fun i o ho j hj => by have := hlt (i + 1) o (by simpa using ho) j hj; omega)
        (fun i o ho hS => hcl (i + 1) o (by simpa using ho) (by rw [show k + (i + 1) = k + 1 + i from by omega]; exact hS)) i o (by simpa using ho) hr j
      rw [show k + 1 + i = k + (i + 1) from by omega] at this
      exact this hj


theorem getD_replicate (n i : Nat) : (Array.replicate n false).getD i false = false := by
  rw [Array.getD_eq_getD_getElem?, Array.getElem?_replicate]; split <;> rfl
theorem getD_false_of_true {S : Array Bool} {i : Nat} (h : S.getD i true = false) : S.getD i false = false ∧ i < S.size := by
  rcases Nat.lt_or_ge i S.size with q | q
  · simp [q] at h ⊢; exact h
  · simp [Nat.not_lt.2 q] at h
theorem getD_true_of_false {S : Array Bool} {i : Nat} (h : S.getD i false = false) (q : i < S.size) : S.getD i true = false := by
  simp [q] at h ⊢; exact h
theorem getD_set {S : Array Bool} {i j : Nat} (hi : i < S.size) : (S.setIfInBounds i true).getD j false = (decide (j = i) || S.getD j false) := by
  by_cases h : j = i
  · subst h; simp [hi]
  · rw [getD_set_ne false (fun e => h e.symm)]; simp [h]

theorem edges_mem {o : Oper} {S : Array Bool} : (∀ e ∈ o.after, Region.binds .any e = true → S.getD e.on false = true) ↔ ∀ j ∈ edgesOf o, S.getD j false = true := by
  unfold edgesOf
  constructor
  · intro h j hj
    obtain ⟨e, he, rfl⟩ := List.mem_map.1 hj
    obtain ⟨h1, h2⟩ := List.mem_filter.1 he
    exact h e (by simpa using h1) h2
  · intro h e he hb
    exact h e.on (List.mem_map.2 ⟨e, List.mem_filter.2 ⟨by simpa using he, hb⟩, rfl⟩)

theorem ready_iff {l : List Oper} {S : Array Bool} {j : Nat} : j ∈ Region.ready .any l.toArray S ↔ S.getD j true = false ∧ ∃ o, l[j]? = some o ∧ ∀ k ∈ edgesOf o, S.getD k false = true := by
  rw [mem_ready]
  simp only [edges_mem, List.getElem?_toArray]

/-- What 'drawOk' says. -/
structure DrawOk (l : List Oper) (m : Nat) : Prop where
  lt : ∀ (i : Nat) o, l[i]? = some o → ∀ j ∈ edgesOf o, j < i
  tail : ∀ i, m ≤ i → i < l.length → ∀ j, j < i → ((masksFrom l []).getD i 0).testBit j = true
  dst : ∀ (i : Nat) o, l[i]? = some o → i < m → ∀ (j : Nat) o', l[j]? = some o' → j < m → j ≠ i → o'.dst ≠ o.dst
  look : ∀ (i : Nat) o, l[i]? = some o → i < m → ∀ s ∈ looks l o, ∀ (j : Nat) o', l[j]? = some o' → j < m → o'.dst = some s → j < i ∧ j ∈ edgesOf o

theorem mem_zipIdx {T : Type} {l : List T} {i : Nat} {x : T} (h : l[i]? = some x) : (x, i) ∈ l.zipIdx := by
  rw [List.mem_zipIdx_iff_getElem?]; exact h

theorem drawOk_spec {l : List Oper} {m : Nat} (h : drawOk l m = true) : DrawOk l m := by
  unfold drawOk at h
  simp only [Bool.and_eq_true, List.all_eq_true] at h
  obtain ⟨h1, h2⟩ := h
  refine ⟨?_, ?_, ?_, ?_⟩
  · intro i o ho j hj
    have := h1 (o, i) (mem_zipIdx ho) j hj
    exact Nat.le_of_ble_eq_true this
  · intro i hmi hi j hj
    have ho : l[i]? = some (l[i]) := List.getElem?_eq_getElem hi
    have := h2 (l[i], i) (mem_zipIdx ho)
    simp only [Nat.ble_eq, hmi, if_true] at this
    unfold allBits at this
    exact List.all_eq_true.1 this j (List.mem_range.2 hj)
  · intro i o ho hi j o' ho' hj hne
    have := h2 (o, i) (mem_zipIdx ho)
    simp only [Nat.ble_eq, Nat.not_le.2 hi, if_false, Bool.and_eq_true, List.all_eq_true] at this
    have k := this.2.1 (o'.dst, j) (mem_zipIdx (by simp [hj, ho']))
    simpa [hne] using k
  · intro i o ho hi s hs j o' ho' hj hd
    have := h2 (o, i) (mem_zipIdx ho)
    simp only [Nat.ble_eq, Nat.not_le.2 hi, if_false, Bool.and_eq_true, List.all_eq_true] at this
    have k := this.2.2 s hs (o'.dst, j) (mem_zipIdx (by simp [hj, ho']))
    simp [hd] at k
    exact ⟨k.1, k.2⟩

section
variable {P : Program} {Q : Exit → Act → World → Prop} {l : List Oper} {m : Nat} {ro : Option Nat}

theorem tail_any (D : DrawOk l m) : ∀ (t j : Nat) (S : Array Bool) (a : Act) (w : World), j + t = l.length → m ≤ j → S.size = l.length → (∀ i, S.getD i false = decide (i < j)) →
    wpListIn (fz ro) 9 P l.toArray Q (l.drop j) a w → wpAnyIn (fz ro) 9 P .any l.toArray Q t S a w := by
  intro t
  induction t with
  | zero =>
    intro j S a w hj hm hS hl h
    refine ⟨?_, by rw [List.drop_eq_nil_of_le (by omega)] at h; exact h⟩
    refine List.eq_nil_iff_forall_not_mem.2 fun i hi => ?_
    obtain ⟨h1, o, ho, _⟩ := ready_iff.1 hi
    obtain ⟨h2, h3⟩ := getD_false_of_true h1
    rw [hl i] at h2
    simp at h2; omega
  | succ t ih =>
    intro j S a w hj hm hS hl h
    have hlt : j < l.length := by omega
    have ho : l[j]? = some l[j] := List.getElem?_eq_getElem hlt
    have hself : j ∈ Region.ready .any l.toArray S := ready_iff.2 ⟨getD_true_of_false (by rw [hl]; simp) (by omega), l[j], ho, fun k hk => by rw [hl]; simpa using D.lt j _ ho k hk⟩
    refine ⟨fun e => by rw [e] at hself; simp at hself, fun i hi => ?_⟩
    obtain ⟨h1, o, hoi, hr⟩ := ready_iff.1 hi
    obtain ⟨h2, h3⟩ := getD_false_of_true h1
    have hij : i = j := by
      rw [hl i] at h2
      simp at h2
      rcases Nat.lt_or_ge j i with q | q
      · exfalso
        have hb := D.tail i (by omega) (by omega) j q
        have := masks_closed (fun k => S.getD k false) l [] 0 rfl (by simp) (by simpa using D.lt) (by
          intro i' o' ho' hSi j' hj'
          simp only [Nat.zero_add] at hSi
          rw [hl] at hSi ⊢
          have := D.lt i' o' ho' j' hj'
          simp at hSi ⊢; omega) i o hoi hr j (by simpa using hb)
        rw [hl] at this; simp at this
      · omega
    subst hij
    rw [List.drop_eq_getElem_cons hlt] at h
    have hop : wpOpIn (fz ro) 9 P l.toArray Q i (wpListIn (fz ro) 9 P l.toArray Q (l.drop (i + 1))) a w := by
      unfold wpOpIn
      simp only [List.getElem?_toArray, ho]
      unfold wpListIn at h
      exact h
    refine wpOpIn_mono (fun a w hk => ih (i + 1) _ a w (by omega) (by omega) (by simpa using hS) (fun k => ?_) hk) hop
    rw [getD_set (by omega), hl]
    by_cases hk : k = i
    · subst hk; simp
    · simp [hk]; omega
end

theorem look_append {s : Nat} : ∀ {l1 l2 : List (Nat × Bool × A)} {c : Bool} {x : A}, look (l1 ++ l2) s = some (c, x) →
    (s, c, x) ∈ l1 ∨ (look l2 s = some (c, x) ∧ ∀ f ∈ l1, f.1 ≠ s)
  | [], _, _, _, h => .inr ⟨h, by simp⟩
  | (t, c', x') :: l1, l2, c, x, h => by
    simp only [List.cons_append, look] at h
    by_cases e : t = s
    · subst e; simp at h; obtain ⟨rfl, rfl⟩ := h; exact .inl (by simp)
    · rw [if_neg (by simpa using e)] at h
      rcases look_append h with q | ⟨q1, q2⟩
      · exact .inl (by simp [q])
      · refine .inr ⟨q1, fun f hf => ?_⟩
        rcases List.mem_cons.1 hf with rfl | hf
        · exact e
        · exact q2 f hf

def Fact (r : Rho) (a : Act) (f : Nat × Bool × A) : Prop := (f.2.1 = true → f.2.2.p r (a.tmps.getD f.1 undef)) ∧ (f.2.1 = false → a.tmps.getD f.1 undef = undef)

structure PState (E : Env) (g : Ctx) (l : List Oper) (m : Nat) (fs : List (Nat × Bool × A)) (S : Array Bool) (a : Act) (w : World) : Prop where
  size : S.size = l.length
  tail : ∀ i, m ≤ i → S.getD i false = false
  closed : ∀ (i : Nat) o, l[i]? = some o → S.getD i false = true → ∀ j ∈ edgesOf o, S.getD j false = true
  tmps : a.tmps.size = E.n
  defers : Marks E w a.defers
  at_ : ∃ r, HoldsAt E { g with sl := [] } r a w ∧ (∀ s c x, look g.sl s = some (c, x) → (∀ f ∈ fs, f.1 ≠ s) → Fact r a (s, c, x)) ∧ (∀ (i : Nat) f, fs[i]? = some f → S.getD i false = true → Fact r a f)

theorem W_draw {E : Env} {g : Ctx} {Q : Exit → Act → World → Prop} {id : Nat} {l : List Oper} (m : Nat) (hmix : E.P.follows .mixedOrders = true) (hm : Nat.ble m l.length = true) (hok : drawOk l m = true)
    (h : Chain E l.toArray g.oc (l.take m) g.sl fun av => WL E l.toArray (l.drop m) { g with sl := av } Q) : W E (.region id l.toArray true) g Q := by
  have hm := Nat.le_of_ble_eq_true hm
  have D := drawOk_spec hok
  obtain ⟨fs, hfl, hK, hst⟩ := h.split
  have hfl : fs.length = m := by rw [hfl]; simp [hm]
  have hstep : ∀ (i : Nat) o f, l[i]? = some o → i < m → fs[i]? = some f → Step1 E l.toArray g.oc ((fs.take i).reverse ++ g.sl) o f := fun i o f ho hi hf => hst i o f (by simp [hi, ho]) hf
  have hdst : ∀ (i : Nat) o f, l[i]? = some o → i < m → fs[i]? = some f → o.dst = some f.1 := fun i o f ho hi hf => (hstep i o f ho hi hf).1
  have getop : ∀ i, i < m → ∃ o f, l[i]? = some o ∧ fs[i]? = some f := fun i hi =>
    ⟨l[i]'(by omega), fs[i]'(by omega), List.getElem?_eq_getElem _, List.getElem?_eq_getElem _⟩
  intro a w k
  refine wpIn_region_any hmix ?_
  have key : ∀ (u : Nat) (S : Array Bool) (a : Act) (w : World), PState E g l m fs S a w → ((List.range m).filter fun i => !S.getD i false).length = u →
      wpAnyIn (fz E.rnd) 9 E.P .any l.toArray Q (u + (l.length - m)) S a w := by
    intro u
    induction u with
    | zero =>
      intro S a w p hu
      have hall : ∀ i, i < m → S.getD i false = true := fun i hi => by
        have := List.length_eq_zero_iff.1 hu
        have := List.filter_eq_nil_iff.1 this i (List.mem_range.2 hi)
        simpa using this
      have hSi : ∀ i, S.getD i false = decide (i < m) := fun i => by
        rcases Nat.lt_or_ge i m with q | q
        · rw [hall i q]; simp [q]
        · rw [p.tail i q]; simp; omega
      rw [Nat.zero_add]
      refine tail_any D _ m S a w (by omega) (Nat.le_refl _) p.size hSi ?_
      obtain ⟨r, H, hg, hf⟩ := p.at_
      refine hK a w ⟨p.tmps, p.defers, r, { H with slots := ?_ }⟩
      intro s c x e
      rcases look_append e with q | ⟨q1, q2⟩
      · obtain ⟨i, hi, he⟩ := List.getElem_of_mem (List.mem_reverse.1 q)
        exact hf i (s, c, x) (by rw [List.getElem?_eq_getElem hi, he]) (hall i (by omega))
      · exact hg s c x q1 (fun f hf => q2 f (List.mem_reverse.2 hf))
    | succ u ih =>
      intro S a w p hu
      rw [show u + 1 + (l.length - m) = (u + (l.length - m)) + 1 from by omega]
      have hex : ∃ i, i < m ∧ S.getD i false = false := by
        have hne : ((List.range m).filter fun i => !S.getD i false) ≠ [] := fun e => by rw [e] at hu; simp at hu
        obtain ⟨i, hi⟩ := List.exists_mem_of_ne_nil _ hne
        obtain ⟨h1, h2⟩ := List.mem_filter.1 hi
        exact ⟨i, List.mem_range.1 h1, by simpa using h2⟩
      obtain ⟨i0, ⟨hi0, hS0⟩, hmin⟩ := least hex
      have hready : i0 ∈ Region.ready .any l.toArray S := by
        have ho : l[i0]? = some (l[i0]'(by omega)) := List.getElem?_eq_getElem _
        refine ready_iff.2 ⟨getD_true_of_false hS0 (by rw [p.size]; omega), _, ho, fun j hj => ?_⟩
        have hlt := D.lt i0 _ ho j hj
        cases hSj : S.getD j false with
        | true => rfl
        | false => have := hmin j ⟨by omega, hSj⟩; omega
      refine ⟨fun e => by rw [e] at hready; simp at hready, fun i hi => ?_⟩
      obtain ⟨h1, o, ho, hr⟩ := ready_iff.1 hi
      obtain ⟨hSi, hilt⟩ := getD_false_of_true h1
      rw [p.size] at hilt
      have him : i < m := by
        rcases Nat.lt_or_ge i m with q | q
        · exact q
        · exfalso
          have := masks_closed (fun k => S.getD k false) l [] 0 rfl (by simp) (by simpa using D.lt) (by
            intro i' o' ho' hSi' j' hj'
            simp only [Nat.zero_add] at hSi'
            exact p.closed i' o' ho' hSi' j' hj') i o ho hr i0 (by simpa using D.tail i q hilt i0 (by omega))
          rw [hS0] at this; cases this
      obtain ⟨_, f, _, hf⟩ := getop i him
      have hs := hstep i o f ho him hf
      obtain ⟨r, H, hg, hfacts⟩ := p.at_
      have hsl : ∀ s ∈ o.looksAt l.toArray, ∀ c x, look ((fs.take i).reverse ++ g.sl) s = some (c, x) → (c = true → x.p r (a.tmps.getD s undef)) ∧ (c = false → a.tmps.getD s undef = undef) := by
        intro s hsm c x e
        rw [looks_eq] at hsm
        rcases look_append e with q | ⟨q1, q2⟩
        · obtain ⟨j, hj, he⟩ := List.getElem_of_mem (List.mem_reverse.1 q)
          have hj' : j < i := by simp at hj; omega
          have hfj : fs[j]? = some (s, c, x) := by
            rw [← he, List.getElem_take]
            exact List.getElem?_eq_getElem _
          obtain ⟨oj, fj, hoj, hfj'⟩ := getop j (by omega)
          rw [hfj] at hfj'
          cases hfj'
          have hd := hdst j oj _ hoj (by omega) hfj
          have hk := D.look i o ho him s hsm j oj hoj (by omega) hd
          exact hfacts j (s, c, x) hfj (hr j hk.2)
        · refine hg s c x q1 fun f' hf' e' => ?_
          obtain ⟨j, hj, he⟩ := List.getElem_of_mem hf'
          have hfj : fs[j]? = some f' := by rw [List.getElem?_eq_getElem hj, he]
          obtain ⟨oj, fj, hoj, hfj'⟩ := getop j (by omega)
          have hd := hdst j oj f' hoj (by omega) hfj
          rw [e'] at hd
          have hk := D.look i o ho him s hsm j oj hoj (by omega) hd
          refine q2 f' (List.mem_reverse.2 ?_) e'
          exact List.mem_of_getElem? (i := j) (by rw [List.getElem?_take]; simp [hk.1, hfj])
      unfold wpOpIn
      simp only [List.getElem?_toArray, ho]
      have step := step_sem (Q := Q) hs H.ok H.oc p.tmps hsl (K := wpAnyIn (fz E.rnd) 9 E.P .any l.toArray Q (u + (l.length - m)) (S.setIfInBounds i true)) (fun v s w' gr hv hun => by
        refine ih _ _ _ ?_ ?_
        · have hd : Nat.ble (f.1 + 1) E.n = true := hs.2.1
          have hlt : f.1 < a.tmps.size := by rw [p.tmps]; exact Nat.le_of_ble_eq_true hd
          refine ⟨by simpa using p.size, ?_, ?_, by rw [size_put]; exact p.tmps, by rw [defers_put]; exact p.defers.grow H gr, s, ?_, ?_, ?_⟩
          · intro j hj
            rw [getD_set (by rw [p.size]; omega), p.tail j hj]
            simp; omega
          · intro j oj hoj hSj k' hk'
            rw [getD_set (by rw [p.size]; omega)] at hSj ⊢
            rcases Bool.or_eq_true _ _ ▸ hSj with q | q
            · have : j = i := by simpa using q
              subst this
              rw [ho] at hoj; cases hoj
              rw [hr k' hk']; simp
            · rw [p.closed j oj hoj q k' hk']; simp
          · have := H.grow gr (a' := a.put (some f.1) v) (fun _ _ _ e => by cases e)
            exact this
          · intro s' c x e hne
            have hk := hg s' c x e hne
            have hne' : f.1 ≠ s' := hne f (List.mem_of_getElem? hf)
            unfold Fact at *
            simp only [getD_put_ne hne']
            exact ⟨fun hc => x.mono gr.le (hk.1 hc), hk.2⟩
          · intro j f' hfj hSj
            rw [getD_set (by rw [p.size]; omega)] at hSj
            by_cases hji : j = i
            · subst hji
              rw [hf] at hfj; cases hfj
              unfold Fact
              rw [getD_put_same hlt]
              exact ⟨hv, hun⟩
            · have hSj' : S.getD j false = true := by simpa [hji] using hSj
              have hk := hfacts j f' hfj hSj'
              have hjm : j < m := by rw [← hfl]; exact (List.getElem?_eq_some_iff.1 hfj).1
              obtain ⟨oj, _, hoj, _⟩ := getop j hjm
              have hne' : f.1 ≠ f'.1 := fun e' => D.dst i o ho him j oj hoj hjm hji (by rw [hdst j oj f' hoj hjm hfj, hdst i o f ho him hf, e'])
              unfold Fact at *
              simp only [getD_put_ne hne']
              exact ⟨fun hc => f'.2.2.mono gr.le (hk.1 hc), hk.2⟩
        · have hfil : ((List.range m).filter fun j => !(S.setIfInBounds i true).getD j false) = ((List.range m).filter fun j => !S.getD j false).erase i := by
            rw [List.Nodup.erase_eq_filter (List.Nodup.sublist List.filter_sublist List.nodup_range), List.filter_filter]
            refine List.filter_congr fun j _ => ?_
            rw [getD_set (by rw [p.size]; omega)]
            by_cases hji : j = i <;> simp [hji]
          rw [hfil, List.length_erase_of_mem (List.mem_filter.2 ⟨List.mem_range.2 him, by simp [hSi]⟩), hu]
          rfl)
      split
      · rename_i hw
        rw [if_pos hw] at step
        exact step
      · rename_i hw
        rw [if_neg hw] at step
        exact step
  obtain ⟨k1, k2, r, H⟩ := k
  have k2 : Marks E { w with drawn := w.drawn + 1 } a.defers := k2.grow H (Grow.same H.ok ((Below.refl _ _).drew))
  have hcount : ((List.range m).filter fun i => !(Array.replicate l.toArray.size false).getD i false).length = m := by
    rw [List.filter_eq_self.2 (fun i hi => ?_)]
    · simp
    · rw [getD_replicate]; rfl
  have hdrew : HoldsAt E { g with sl := [] } r a { w with drawn := w.drawn + 1 } := by
    have hgr : Grow r w r w.drew := Grow.same H.ok ((Below.refl _ _).drew)
    have := H.grow hgr (a' := a) H.slots
    exact { this with slots := fun _ _ _ e => by cases e }
  have fin := key m (Array.replicate l.toArray.size false) a { w with drawn := w.drawn + 1 } ⟨by simp, fun i _ => getD_replicate _ i, (by intro i o _ hS; rw [getD_replicate] at hS; cases hS), k1, k2, r, hdrew, fun s c x e _ => H.slots s c x e, (by intro i f _ hS; rw [getD_replicate] at hS; cases hS)⟩ hcount
  rw [show m + (l.length - m) = l.toArray.size from by simp; omega] at fin
  exact fin
end Go.L
